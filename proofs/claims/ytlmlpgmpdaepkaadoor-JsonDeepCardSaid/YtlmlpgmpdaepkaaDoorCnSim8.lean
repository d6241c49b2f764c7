/- The operations on memory, further: texts, stores, iterators. -/
import Derived.Test.YtlmlpgmpdaepkaaDoorCnSim7
set_option linter.unusedSimpArgs false
set_option linter.unusedVariables false
set_option linter.unusedSectionVars false
namespace Go.Cn
section
variable {P : Program} {a : Act} {μ : Mp} {K : View} {w : World} {e : Env} {h h' : Heap} {v : CV}

theorem vl_bytes : ∀ (l : List UInt8), VL μ (l.map fun b => CV.int .u8 b.toNat) (l.map fun b => Value.int .u8 b.toNat)
  | [] => trivial
  | _ :: l => ⟨rfl, vl_bytes l⟩

theorem heap_alloc (w : World) (ob : Obj) : (w.alloc ob).heap = w.heap.push ob := rfl
theorem heap_drew (w : World) : w.drew.heap = w.heap := rfl

theorem freeze_at {r : Nat} {arr : Array Value} {el : TypeId} {fr : Nat × Nat} (hr : w.heap[r]? = some (.cells arr el fr)) (hs : fr.1 = fr.2 ∨ arr.size ≤ fr.1) :
    (∃ fr', (w.freeze ⟨r, arr.size, none⟩ 1).heap[r]? = some (.cells arr el fr') ∧ (fr'.1 = fr'.2 ∨ arr.size ≤ fr'.1)) ∧ (∀ r', r' ≠ r → (w.freeze ⟨r, arr.size, none⟩ 1).heap[r']? = w.heap[r']?) ∧
    (w.freeze ⟨r, arr.size, none⟩ 1).heap.size = w.heap.size ∧ (w.freeze ⟨r, arr.size, none⟩ 1).os = w.os ∧ (w.freeze ⟨r, arr.size, none⟩ 1).tape = w.tape ∧ (w.freeze ⟨r, arr.size, none⟩ 1).output = w.output := by
  obtain ⟨lo, hi⟩ := fr
  unfold World.freeze
  rw [if_neg (by decide)]
  refine ⟨?_, fun r' hne => ?_, by simp, rfl, rfl, rfl⟩
  · simp only [Array.getElem?_modify, if_true, hr, Option.map_some]
    refine ⟨_, rfl, ?_⟩
    simp only at hs
    split
    · right; exact Nat.le_refl _
    · rename_i hne
      have : lo ≠ hi := by simpa using hne
      right
      simp only
      omega
  · simp only [Array.getElem?_modify]
    rw [if_neg (Ne.symm hne)]

theorem sim_tobytes {o : Oper} {s d el : TypeId} {x : Operand} {x' : Opd} (ho : o.op = .convert s d x) (hs : P.underlying s = some .string) (hd : P.underlying d = some (.slice el)) (he : P.underlying el = some (.int .u8))
    (hx : VR μ (x'.ev e) (a.eval x)) (hv : exec e h (.tobytes x') = some (v, h')) (hS : SimV μ K w) (hn : K h.length = none) : MemSim P o a μ K w v h h' := by
  simp only [exec] at hv
  generalize x'.ev e = cx at *
  split at hv
  · rename_i str
    split at hv
    · rename_i hle
      simp at hv
      obtain ⟨rfl, rfl⟩ := hv
      simp only [VR, VRa, VRc] at hx
      have hmn : μ h.length = none := by
        cases hq : μ h.length with
        | none => rfl
        | some q => obtain ⟨b, hb⟩ := hS.dom _ q hq; rw [hn] at hb; simp at hb
      generalize hcap : (Question.appendCap str.size 0 el).cut (w.tape w.drawn (.appendCap str.size 0 el)) = cap
      have hcap' : str.size ≤ cap := by
        rw [← hcap]; simp [Question.cut]
      let arr : Array Value := str.data.map (fun b => Value.int .u8 b.toNat) ++ Array.replicate (cap - str.size) (.int .u8 0)
      have hsz : arr.size = cap := by
        simp only [arr, Array.size_append, Array.size_map, Array.size_replicate]
        have : str.data.size = str.size := rfl
        omega
      let w1 : World := w.drew.alloc (.cells arr el)
      have hw1 : w1.heap = w.heap.push (.cells arr el) := rfl
      have hw1r : w1.heap[w.heap.size]? = some (.cells arr el (0, 0)) := by rw [hw1]; simp
      obtain ⟨⟨fr', f1, f2⟩, f3, f4, f5, f6, f7⟩ := freeze_at (w := w1) hw1r (.inl rfl)
      let w' : World := w1.freeze ⟨w.heap.size, arr.size, none⟩ 1
      have hl : VL μ (cellsOfStr str) (str.data.toList.map fun b => Value.int .u8 b.toNat) := vl_bytes _
      obtain ⟨g1, g2⟩ := sim_alloc (w' := w') (pl := { r := w.heap.size, δ := 0, tot := arr.size }) (blk := { cells := cellsOfStr str, st := .live }) hS hn rfl (by rw [f4, hw1]; simp)
        (fun r hr => by rw [f3 r (by omega)]; exact heap_push_lt hw1 hr) f5 f6 f7 (by
          unfold BlkOK
          rw [if_neg (by simp)]
          refine ⟨arr, el, fr', f1, rfl, ?_, fun i c hc => ?_, fun _ => f2, (fun t ht => by simp at ht), fun t ht => by simp at ht⟩
          · have : (cellsOfStr str).length = str.size := by simp [cellsOfStr]
            simp [this, hsz, hcap']
          · obtain ⟨u, hu, hr⟩ := vl_arr (rest := Array.replicate (cap - str.size) (.int .u8 0)) hl i c hc
            refine ⟨u, ?_, hr.mono (Mp.le_set hmn)⟩
            rw [← hu]
            congr 1
            simp only [arr]
            congr 1
            apply Array.ext'; simp)
      refine ⟨_, .slice (some ⟨w.heap.size, 0, none⟩) str.size cap, w', .inl ?_, ?_, by rw [updK_push]; exact g2, by rw [updK_push]; exact g1⟩
      · rw [ex_conv ho, hx]
        have hsh : w1.shape? w.heap.size = some (el, arr.size) := by simp [World.shape?, hw1r]
        simp only [convert, Sem.run_bind, run_underlying hs, run_underlying hd, Result.andThen_ok, run_underlying he, Conv.stringToBytes, run_choose, Question.forced, Bool.false_eq_true, if_false, hcap, newRow, run_newObj,
          Sem.run_pure, markStringish, run_shape]
        have e1 : ({ ({ w with drawn := w.drawn + 1 } : World) with heap := ({ w with drawn := w.drawn + 1 } : World).heap.push (.cells (str.data.map (fun b => Value.int .u8 b.toNat) ++ Array.replicate (cap - str.size) (.int .u8 0)) el) } : World) = w1 := rfl
        rw [e1]
        simp only [hsh, run_freeze, Result.andThen_ok]
        rfl
      · refine VR.of_c ⟨_, _, cap, Mp.set_same _ _ _, rfl, Nat.le_refl _, hcap', fun hh => by simp at hh, by decide, .inr ⟨by simp, ?_⟩⟩
        simp [hsz]
    · simp at hv
  · simp at hv

theorem sim_range {o : Oper} {t : TypeId} {x : Operand} {x' : Opd} (ho : o.op = .range t x) (hu : P.underlying t = some .string) (hx : VR μ (x'.ev e) (a.eval x)) (hv : exec e h (.range x') = some (v, h'))
    (hS : SimV μ K w) (hn : K h.length = none) : MemSim P o a μ K w v h h' := by
  simp only [exec] at hv
  generalize x'.ev e = cx at *
  split at hv
  · rename_i s
    simp at hv
    obtain ⟨rfl, rfl⟩ := hv
    simp only [VR, VRa, VRc] at hx
    obtain ⟨g1, g2⟩ := sim_alloc (w' := w.alloc (.stringIter s 0)) (pl := { r := w.heap.size, δ := 0, tot := 0 }) (blk := { cells := [.str s, .int .i64 0], st := .iter }) hS hn rfl (by simp)
      (fun r hr => heap_push_lt rfl hr) rfl rfl rfl (by
        unfold BlkOK
        rw [if_pos rfl]
        exact ⟨s, 0, rfl, Int.le_refl _, rfl, by rw [heap_alloc]; simp⟩)
    refine ⟨_, .pointer (some ⟨w.heap.size, 0, none⟩), _, .inl ?_, ⟨_, Mp.set_same _ _ _, rfl⟩, by rw [updK_push]; exact g2, by rw [updK_push]; exact g1⟩
    rw [ex_range ho, hx]
    simp [Instr.range, run_underlying hu]
  · simp at hv

/-! ### stores -/

theorem setCells_heap {r : Nat} {el : TypeId} {fr : Nat × Nat} : ∀ (vs : List Value) (o : Nat) (w : World) (arr : Array Value), w.heap[r]? = some (.cells arr el fr) → o + vs.length ≤ arr.size →
    ∃ arr', (w.setCells r o vs).heap[r]? = some (.cells arr' el fr) ∧ arr'.size = arr.size ∧ ∀ i, arr'[i]? = if o ≤ i ∧ i < o + vs.length then vs[i - o]? else arr[i]? := by
  intro vs
  induction vs with
  | nil =>
    intro o w arr hr hl
    refine ⟨arr, hr, rfl, fun i => ?_⟩
    rw [if_neg (by simp only [List.length_nil]; omega)]
  | cons v vs ih =>
    intro o w arr hr hl
    simp only [List.length_cons] at hl
    have h1 : (w.setCell ⟨r, o, none⟩ v).heap[r]? = some (.cells (arr.setIfInBounds o v) el fr) := by
      simp [World.setCell, Array.getElem?_modify, hr]
    obtain ⟨arr', g1, g2, g3⟩ := ih (o + 1) (w.setCell ⟨r, o, none⟩ v) (arr.setIfInBounds o v) h1 (by simp; omega)
    refine ⟨arr', g1, by simpa using g2, fun i => ?_⟩
    rw [g3 i]
    simp only [List.length_cons]
    by_cases hi : o + 1 ≤ i ∧ i < o + 1 + vs.length
    · rw [if_pos hi, if_pos (by omega), show i - o = (i - (o + 1)) + 1 by omega]
      simp
    · rw [if_neg hi]
      by_cases hio : i = o
      · subst hio
        rw [if_pos (by omega), Array.getElem?_setIfInBounds, if_pos rfl, if_pos (by omega)]
        simp
      · rw [if_neg (by omega), Array.getElem?_setIfInBounds_ne (Ne.symm hio)]

theorem setCells_other {r : Nat} : ∀ (vs : List Value) (o : Nat) (w : World) (r' : Nat), r' ≠ r → (w.setCells r o vs).heap[r']? = w.heap[r']? := by
  intro vs
  induction vs with
  | nil => intro o w r' _; rfl
  | cons v vs ih =>
    intro o w r' hne
    rw [World.setCells, ih (o + 1) _ r' hne]
    simp only [World.setCell, Array.getElem?_modify]
    rw [if_neg (Ne.symm hne)]

theorem setCells_rest {r : Nat} : ∀ (vs : List Value) (o : Nat) (w : World), (w.setCells r o vs).os = w.os ∧ (w.setCells r o vs).tape = w.tape ∧ (w.setCells r o vs).output = w.output ∧ (w.setCells r o vs).heap.size = w.heap.size := by
  intro vs
  induction vs with
  | nil => intro o w; exact ⟨rfl, rfl, rfl, rfl⟩
  | cons v vs ih =>
    intro o w
    obtain ⟨h1, h2, h3, h4⟩ := ih (o + 1) (w.setCell ⟨r, o, none⟩ v)
    exact ⟨h1, h2, h3, by rw [World.setCells, h4]; simp⟩

theorem soft_frozen {r : Nat} {arr : Array Value} {el : TypeId} {fr : Nat × Nat} (hr : w.heap[r]? = some (.cells arr el fr)) (hf : fr.1 = fr.2 ∨ arr.size ≤ fr.1) {i : Nat} (hi : i < arr.size) : w.frozen? ⟨r, i, none⟩ = false := by
  obtain ⟨lo, hi'⟩ := fr
  simp only [World.frozen?, hr]
  simp only at hf
  simp
  intro _
  omega

/-- cells of a block that may be written are turned -/
theorem st_sim {b off : Nat} {cs : List CV} {vs : List Value} {pl : Pl} (hS : SimV μ K w) (hA : ∀ blk, b < h.length → K b = some blk → h[b]? = some blk) (hm : μ b = some pl) (hl : VL μ cs vs) (hst : h.stc b off cs = some h') :
    (∀ j, j < vs.length → (w.cell? ⟨pl.r, pl.δ + off + j, none⟩).isSome = true) ∧ (∀ j, j < vs.length → w.frozen? ⟨pl.r, pl.δ + off + j, none⟩ = false) ∧
    SimV μ (updK K h h') (w.setCells pl.r (pl.δ + off) vs) ∧ Step μ K w μ (updK K h h') (w.setCells pl.r (pl.δ + off) vs) := by
  unfold Heap.stc at hst
  split at hst
  · rename_i blk hb
    split at hst
    · rename_i hc
      simp at hst
      subst hst
      obtain ⟨hK, hB⟩ := blk_at hS hA hm hb
      have hB' := hB (by rw [hc.1]; simp)
      unfold BlkOK at hB'
      rw [if_neg (by rw [hc.1]; simp)] at hB'
      obtain ⟨arr, el, fr, h1, h2, h3, h4, h5, h6⟩ := hB'
      have hlen := hl.length
      have hin : ∀ j, j < vs.length → pl.δ + off + j < arr.size := fun j hj => by omega
      obtain ⟨arr', g1, g2, g3⟩ := setCells_heap vs (pl.δ + off) w arr h1 (by omega)
      obtain ⟨r1, r2, r3, r4⟩ := setCells_rest (r := pl.r) vs (pl.δ + off) w
      have hu := sim_upd (w' := w.setCells pl.r (pl.δ + off) vs) (blk' := { blk with cells := splice blk.cells off cs }) hS hK (.inl hc.1) hm r4 (fun r hr => setCells_other vs _ w r hr) r1 r2 r3 (fun _ => by
        unfold BlkOK
        rw [if_neg (by simp [hc.1])]
        refine ⟨arr', el, fr, g1, by rw [g2, h2], ?_, ?_, fun hh => by rw [g2]; exact h5 hh, fun t ht => ?_, h6.2⟩
        · simp [splice]; omega
        · intro i c hci
          simp only [splice] at hci
          rw [g3]
          by_cases hi1 : i < off
          · rw [List.append_assoc, List.getElem?_append_left (by simp; omega), List.getElem?_take, if_pos hi1] at hci
            rw [if_neg (by omega)]
            exact h4 i c hci
          · by_cases hi2 : i < off + cs.length
            · rw [List.append_assoc, List.getElem?_append_right (by simp; omega), List.getElem?_append_left (by simp; omega)] at hci
              rw [if_pos (by omega)]
              simp only [List.length_take] at hci
              rw [show i - min off blk.cells.length = i - off by omega] at hci
              obtain ⟨u, hu, hr⟩ := hl.get hci
              exact ⟨u, by rw [show pl.δ + i - (pl.δ + off) = i - off by omega]; exact hu, hr⟩
            · rw [List.getElem?_append_right (by simp; omega)] at hci
              rw [if_neg (by omega)]
              simp only [List.length_append, List.length_take, List.getElem?_drop] at hci
              rw [show off + cs.length + (i - (min off blk.cells.length + cs.length)) = i by omega] at hci
              exact h4 i c hci
        · obtain ⟨e1, e2, e3⟩ := h6.1 t ht
          refine ⟨e1, e2, ?_⟩
          simp [splice]; omega)
      refine ⟨fun j hj => ?_, fun j hj => ?_, ?_, ?_⟩
      · rw [cell_of_row w pl.r _ arr el fr h1]
        rw [Array.getElem?_eq_getElem (hin j hj)]; rfl
      · exact soft_frozen h1 (h5 hc.1) (hin j hj)
      · rw [updK_set hb hK]; exact hu.1
      · rw [updK_set hb hK]; exact hu.2
    · simp at hst
  · simp at hst

theorem sim_store {o : Oper} {t : TypeId} {n : Nat} {x y : Operand} {x' y' : Opd} (ho : o.op = .store t x y) (hn : sizeT P t = some n) (hx : VR μ (x'.ev e) (a.eval x)) (hy : VR μ (y'.ev e) (a.eval y)) (hS : SimV μ K w)
    (hA : Agree K h (touched e (.store n x' y'))) (hv : exec e h (.store n x' y') = some (v, h')) : MemSim P o a μ K w v h h' := by
  have hA' := fun b hb => agree_at (x := x') (b := b) hA (by simp [COp.addrs]) hb
  simp only [exec] at hv
  generalize x'.ev e = cx at *
  generalize y'.ev e = cy at *
  split at hv
  · rename_i b off
    split at hv
    · rename_i hc
      simp only [Option.map_eq_some_iff, Prod.mk.injEq] at hv
      obtain ⟨h1, hst, rfl, rfl⟩ := hv
      obtain ⟨pl, hm, hxe⟩ := vr_ptr hx
      have hl := hy.cells hc.2
      obtain ⟨p1, p2, p3, p4⟩ := st_sim hS (hA' b rfl) hm hl hst
      refine ⟨μ, undef, _, .inr ⟨?_, rfl⟩, rfl, p4, p3⟩
      simp only [sizeT, Option.map_eq_some_iff] at hn
      obtain ⟨i, hi, rfl⟩ := hn
      have hsz : (a.eval y).cells.size = i.size := by rw [← hc.1, hl.length]; simp
      have hst := run_storeCells_cells (P := P) pl.r (pl.δ + off) (a.eval y).cells.toList 0 w (by simpa using p1) (by simpa using p2) hl.oneCell
      simp only [Nat.add_zero] at hst
      rw [ex_store ho, hxe]
      simp [Instr.storeAt, Instr.sureAddr, storeVar, sizeOf, run_typeInfo w hi, hsz, hst]
    · simp at hv
  · simp at hv

theorem sim_next {o : Oper} {x : Operand} {x' : Opd} (ho : o.op = .next x true) (hx : VR μ (x'.ev e) (a.eval x)) (hS : SimV μ K w) (hA : Agree K h (touched e (.next x'))) (hv : exec e h (.next x') = some (v, h')) : MemSim P o a μ K w v h h' := by
  have hA' := fun b hb => agree_at (x := x') (b := b) hA (by simp [COp.addrs]) hb
  simp only [exec] at hv
  generalize x'.ev e = cx at *
  split at hv
  · rename_i b
    split at hv
    · rename_i s pos hb
      obtain ⟨pl, hm, hxe⟩ := vr_ptr hx
      obtain ⟨hK, hB⟩ := blk_at hS (hA' b rfl) hm hb
      have hB := hB (by simp)
      unfold BlkOK at hB
      rw [if_pos rfl] at hB
      obtain ⟨s', pos', hcs, h0, hδ, hheap⟩ := hB
      simp at hcs
      obtain ⟨rfl, rfl⟩ := hcs
      split at hv
      · rename_i hc
        simp only [Option.some.injEq, Prod.mk.injEq] at hv
        obtain ⟨rfl, rfl⟩ := hv
        have hu := sim_upd (w' := { w with heap := w.heap.setIfInBounds pl.r (.stringIter s (pos.toNat + (Utf8.decode s pos.toNat).2)) })
          (blk' := { cells := [.str s, .int .i64 (pos + (Utf8.decode s pos.toNat).2)], st := .iter }) hS hK (.inr rfl) hm (by simp) (fun r hr => by simp [Array.getElem?_setIfInBounds_ne (Ne.symm hr)]) rfl rfl rfl (fun _ => by
            unfold BlkOK
            rw [if_pos rfl]
            refine ⟨s, pos + (Utf8.decode s pos.toNat).2, rfl, by omega, hδ, ?_⟩
            have := (Array.getElem?_eq_some_iff.1 hheap).1
            simp [this]
            omega)
        refine ⟨μ, .tuple #[.bool true, .int .i64 pos, .int .i32 (Utf8.decode s pos.toNat).1], _, .inl ?_, ⟨[_, _, _], rfl, rfl, rfl, rfl, trivial⟩, by rw [updK_set hb hK]; exact hu.2, by rw [updK_set hb hK]; exact hu.1⟩
        rw [ex_next ho, hxe, hδ]
        have hlt : pos.toNat < s.size := by omega
        have hp : ((pos.toNat : Nat) : Int) = pos := by omega
        simp [Instr.next, getObj, setObj, Sem.run, hheap, hlt, goInt, hp]
      · split at hv
        · rename_i hc
          simp at hv
          obtain ⟨rfl, rfl⟩ := hv
          refine memSim_same hS (u := .tuple #[.bool false]) ?_ ⟨[_], rfl, rfl, trivial⟩
          rw [ex_next ho, hxe, hδ]
          have hlt : ¬ pos.toNat < s.size := by omega
          simp [Instr.next, getObj, Sem.run, hheap, hlt]
        · simp at hv
    · simp at hv
  · simp at hv

end
end Go.Cn
