/- The operations on memory, one by one: the canonical run tells what the machine does. -/
import Derived.Test.YtlmlpgmpdaepkaaDoorCnSim5
set_option linter.unusedSimpArgs false
set_option linter.unusedVariables false
set_option linter.unusedSectionVars false
namespace Go.Cn

def touched (e : Env) (c : COp) : Nat → Prop := fun b => ∃ x ∈ c.addrs, blockOf (x.ev e) = some b

def MemSim (P : Program) (o : Oper) (a : Act) (μ : Mp) (K : View) (w : World) (v : CV) (h h' : Heap) : Prop :=
  ∃ μ' u w', ((execOp a.eval o).run P w = .ok (.value u) w' ∨ ((execOp a.eval o).run P w = .ok .skip w' ∧ u = undef)) ∧ VR μ' v u ∧ Step μ K w μ' (updK K h h') w' ∧ SimV μ' (updK K h h') w'

section
variable {P : Program} {a : Act} {μ : Mp} {K : View} {w : World} {e : Env} {h h' : Heap} {v : CV}

theorem ex_load {o : Oper} {ρ : Operand → Value} {t x} (ho : o.op = .load t x) : execOp ρ o = (do pure (.value (← Instr.loadAt t (ρ x)))) := by unfold execOp; rw [ho]
theorem ex_alloc {o : Oper} {ρ : Operand → Value} {t} (ho : o.op = .alloc t) : execOp ρ o = (do pure (.value (← Instr.alloc t true (.tuple #[])))) := by unfold execOp; rw [ho]
theorem ex_box {o : Oper} {ρ : Operand → Value} {t x} (ho : o.op = .box t x) : execOp ρ o = (do pure (.value (← Instr.box t (ρ x)))) := by unfold execOp; rw [ho]
theorem ex_lit {o : Oper} {ρ : Operand → Value} {t n ps} (ho : o.op = .buildSlice t n ps) : execOp ρ o = (do pure (.value (← Instr.buildSlice t n (ps.map fun p => (p.1, ρ p.2))))) := by unfold execOp; rw [ho]
theorem ex_store {o : Oper} {ρ : Operand → Value} {t x y} (ho : o.op = .store t x y) : execOp ρ o = (do Instr.storeAt t (ρ x) (ρ y); pure .skip) := by unfold execOp; rw [ho]
theorem ex_conv {o : Oper} {ρ : Operand → Value} {s d x} (ho : o.op = .convert s d x) : execOp ρ o = (do pure (.value (← convert s d (ρ x)))) := by unfold execOp; rw [ho]
theorem ex_make {o : Oper} {ρ : Operand → Value} {t l c} (ho : o.op = .makeSlice t l c) : execOp ρ o = (do pure (.value (← Instr.makeSlice t (ρ l) (ρ c)))) := by unfold execOp; rw [ho]
theorem ex_range {o : Oper} {ρ : Operand → Value} {t x} (ho : o.op = .range t x) : execOp ρ o = (do pure (.value (← Instr.range t (ρ x)))) := by unfold execOp; rw [ho]
theorem ex_next {o : Oper} {ρ : Operand → Value} {x b} (ho : o.op = .next x b) : execOp ρ o = (do pure (.value (← Instr.next (ρ x) b o.type))) := by unfold execOp; rw [ho]

/-- what a canonical block says of the machine's -/
theorem blk_at {b : Nat} {blk : Blk} {pl : Pl} (hS : SimV μ K w) (hA : ∀ blk, b < h.length → K b = some blk → h[b]? = some blk) (hm : μ b = some pl) (hb : h[b]? = some blk) :
    K b = some blk ∧ (blk.st ≠ .dead → BlkOK μ w pl blk) := by
  obtain ⟨blk0, hK⟩ := hS.dom b pl hm
  have := hA blk0 (List.getElem?_eq_some_iff.1 hb).1 hK
  rw [hb] at this; simp at this; subst this
  obtain ⟨pl', h1, h2⟩ := hS.blk b blk hK
  rw [hm] at h1; simp at h1; subst h1
  exact ⟨hK, h2⟩

theorem ld_at {b off n : Nat} {cs : List CV} {pl : Pl} (hS : SimV μ K w) (hA : ∀ blk, b < h.length → K b = some blk → h[b]? = some blk) (hm : μ b = some pl) (hl : h.ld b off n = some cs) :
    ∃ vs, VL μ cs vs ∧ vs.length = n ∧ w.rangeAt pl.r (pl.δ + off) vs := by
  unfold Heap.ld at hl
  split at hl
  · rename_i blk hb
    split at hl
    · rename_i hc
      simp at hl
      subst hl
      obtain ⟨hK, hB⟩ := blk_at hS hA hm hb
      have hB := hB (by rcases hc.1 with h1 | h1 <;> rw [h1] <;> simp)
      unfold BlkOK at hB
      rw [if_neg (by rcases hc.1 with h1 | h1 <;> rw [h1] <;> simp)] at hB
      obtain ⟨arr, el, fr, h1, h2, h3, h4, h5, _⟩ := hB
      refine ⟨(arr.toList.drop (pl.δ + off)).take n, VL.mk (by simp; omega) ?_, by simp; omega, ?_⟩
      · intro i c u hc1 hu
        rw [List.getElem?_take] at hc1 hu
        split at hc1
        · rename_i hi
          rw [if_pos hi] at hu
          rw [List.getElem?_drop] at hc1 hu
          obtain ⟨u', g1, g2⟩ := h4 _ _ hc1
          rw [Array.getElem?_toList, Nat.add_assoc, g1] at hu
          simp at hu; exact hu ▸ g2
        · simp at hc1
      · intro j u hu
        rw [List.getElem?_take] at hu
        split at hu
        · rw [List.getElem?_drop, Array.getElem?_toList] at hu
          rw [cell_of_row w pl.r _ arr el fr h1]; exact hu
        · simp at hu
    · simp at hl
  · simp at hl

theorem vr_ptr {b off : Nat} {u : Value} (hx : VR μ (.ptr b off) u) : ∃ pl, μ b = some pl ∧ u = .pointer (some ⟨pl.r, pl.δ + off, none⟩) := hx

theorem agree_at {c : COp} {x : Opd} {b : Nat} (hA : Agree K h (touched e c)) (hx : x ∈ c.addrs) (hb : blockOf (x.ev e) = some b) : ∀ blk, b < h.length → K b = some blk → h[b]? = some blk :=
  fun blk h1 h2 => hA b blk ⟨x, hx, hb⟩ h1 h2

theorem memSim_same {o : Oper} {u : Value} (hS : SimV μ K w) (hr : (execOp a.eval o).run P w = .ok (.value u) w) (hu : VR μ v u) : MemSim P o a μ K w v h h :=
  ⟨μ, u, w, .inl hr, hu, by rw [updK_self]; exact Step.refl _ _ _, by rw [updK_self]; exact hS⟩

theorem isAgg_run {t : TypeId} {b : Bool} (h : isAggT P t = some b) (w : World) : (isAgg t).run P w = .ok b w := by
  unfold isAggT at h
  split at h <;> simp at h <;> subst h <;> rename_i hu' <;> simp [isAgg, run_underlying hu']

theorem sim_load {o : Oper} {t : TypeId} {x : Operand} {x' : Opd} (ho : o.op = .load t x) (hg : isAggT P t = some false) (hx : VR μ (x'.ev e) (a.eval x)) (hS : SimV μ K w) (hA : Agree K h (touched e (.load x')))
    (hv : exec e h (.load x') = some (v, h')) : MemSim P o a μ K w v h h' := by
  have hA' := fun b hb => agree_at (x := x') (b := b) hA (by simp [COp.addrs]) hb
  simp only [exec] at hv
  generalize x'.ev e = cx at *
  split at hv
  · rename_i b off
    split at hv
    · rename_i c hl
      simp at hv
      obtain ⟨rfl, rfl⟩ := hv
      obtain ⟨pl, hm, hxe⟩ := vr_ptr hx
      obtain ⟨vs, h1, h2, h3⟩ := ld_at hS (hA' b rfl) hm hl
      cases vs with
      | nil => simp at h2
      | cons u us =>
        refine memSim_same hS (u := u) ?_ (VR.of_c h1.1)
        have hc := h3 0 u rfl
        rw [ex_load ho, hxe]
        simp only [Nat.add_zero] at hc
        simp [Instr.loadAt, Instr.sureAddr, loadVar, isAgg_run hg, hc]
    · simp at hv
  · simp at hv

theorem isRow_of {t : TypeId} (h : isAggT P t = some true) : ∃ d, P.underlying t = some d ∧ d.isRow = true := by
  unfold isAggT at h
  split at h <;> simp at h <;> rename_i hu' <;> exact ⟨_, hu', rfl⟩

theorem sim_loada {o : Oper} {t : TypeId} {n : Nat} {x : Operand} {x' : Opd} (ho : o.op = .load t x) (hg : isAggT P t = some true) (hn : sizeT P t = some n) (hx : VR μ (x'.ev e) (a.eval x)) (hS : SimV μ K w)
    (hA : Agree K h (touched e (.loada n x'))) (hv : exec e h (.loada n x') = some (v, h')) : MemSim P o a μ K w v h h' := by
  have hA' := fun b hb => agree_at (x := x') (b := b) hA (by simp [COp.addrs]) hb
  simp only [exec] at hv
  generalize x'.ev e = cx at *
  split at hv
  · rename_i b off
    split at hv
    · rename_i cs hl
      simp at hv
      obtain ⟨rfl, rfl⟩ := hv
      obtain ⟨pl, hm, hxe⟩ := vr_ptr hx
      obtain ⟨vs, h1, h2, h3⟩ := ld_at hS (hA' b rfl) hm hl
      obtain ⟨d, hd, hrow⟩ := isRow_of hg
      refine memSim_same hS (u := .agg vs.toArray) ?_ ⟨vs, rfl, h1⟩
      rw [ex_load ho, hxe]
      have := run_loadAt_mid (P := P) w pl.r (pl.δ + off) t vs d h3 hd hrow (by rw [h2]; exact hn)
      simp [this]
    · simp at hv
  · simp at hv

/-! ### new blocks -/

theorem vl_arr {cs : List CV} {vs : List Value} {rest : Array Value} (hl : VL μ cs vs) : ∀ (i : Nat) c, cs[i]? = some c → ∃ u, (vs.toArray ++ rest)[0 + i]? = some u ∧ VRc μ c u := by
  intro i c hc
  obtain ⟨u, hu, hr⟩ := hl.get hc
  have hi : i < vs.length := (List.getElem?_eq_some_iff.1 hu).1
  refine ⟨u, ?_, hr⟩
  rw [Nat.zero_add, Array.getElem?_append_left (by simpa using hi)]
  simpa using hu

theorem heap_push_lt {w w' : World} {ob : Obj} (hw : w'.heap = w.heap.push ob) {r : Nat} (hr : r < w.heap.size) : w'.heap[r]? = w.heap[r]? := by
  rw [hw, Array.getElem?_push, if_neg (by omega)]

/-- a new row of cells, some behind the known ones -/
theorem new_row_ty {w' : World} {cs : List CV} {vs : List Value} {rest : Array Value} {el : TypeId} {ty le : Option TypeId} (hty : ∀ t, ty = some t → el = t ∧ rest = #[]) (hle : ∀ t, le = some t → el = t) (hS : SimV μ K w) (hn : K h.length = none) (hl : VL μ cs vs)
    (hw : w'.heap = w.heap.push (.cells (vs.toArray ++ rest) el)) (hos : w'.os = w.os) (ht : w'.tape = w.tape) (hout : w'.output = w.output) :
    let pl : Pl := { r := w.heap.size, δ := 0, tot := (vs.toArray ++ rest).size }
    SimV (μ.set h.length pl) (updK K h (h ++ [{ cells := cs, st := .live, ty := ty, el := le }])) w' ∧ Step μ K w (μ.set h.length pl) (updK K h (h ++ [{ cells := cs, st := .live, ty := ty, el := le }])) w' := by
  intro pl
  rw [updK_push]
  have hmn : μ h.length = none := by
    cases hq : μ h.length with
    | none => rfl
    | some q => obtain ⟨b, hb⟩ := hS.dom _ q hq; rw [hn] at hb; simp at hb
  refine sim_alloc hS hn rfl (by simp [hw]) (fun r hr => heap_push_lt hw hr) hos ht hout ?_
  unfold BlkOK
  rw [if_neg (by simp)]
  refine ⟨vs.toArray ++ rest, el, (0, 0), by simp [hw, pl], rfl, ?_, fun i c hc => ?_, fun _ => .inl rfl, fun t ht => ?_, hle⟩
  · simp [pl, hl.length]
  · obtain ⟨u, hu, hr⟩ := vl_arr (rest := rest) hl i c hc
    exact ⟨u, hu, hr.mono (Mp.le_set hmn)⟩
  · obtain ⟨e1, e2⟩ := hty t ht
    exact ⟨e1, rfl, by simp [pl, e2, hl.length]⟩

theorem new_row {w' : World} {cs : List CV} {vs : List Value} {rest : Array Value} {el : TypeId} (hS : SimV μ K w) (hn : K h.length = none) (hl : VL μ cs vs)
    (hw : w'.heap = w.heap.push (.cells (vs.toArray ++ rest) el)) (hos : w'.os = w.os) (ht : w'.tape = w.tape) (hout : w'.output = w.output) :
    let pl : Pl := { r := w.heap.size, δ := 0, tot := (vs.toArray ++ rest).size }
    SimV (μ.set h.length pl) (updK K h (h ++ [{ cells := cs, st := .live }])) w' ∧ Step μ K w (μ.set h.length pl) (updK K h (h ++ [{ cells := cs, st := .live }])) w' :=
  new_row_ty (ty := none) (le := none) (fun t h => by simp at h) (fun t h => by simp at h) hS hn hl hw hos ht hout

theorem sim_allocop {o : Oper} {t : TypeId} {zs : List CV} (ho : o.op = .alloc t) (hz : zeroT P t = some zs) (hS : SimV μ K w) (hn : K h.length = none) : MemSim P o a μ K w (.ptr h.length 0) h (h ++ [{ cells := zs, st := .live, ty := some t }]) := by
  simp only [zeroT, Option.bind_eq_some_iff] at hz
  obtain ⟨i, hi, z, hzz, hcz⟩ := hz
  have hl : VL μ zs z.cells.toList := vl_of_cvOfL hcz
  obtain ⟨h1, h2⟩ := new_row_ty (w' := w.alloc (.cells (z.cells.toList.toArray ++ #[]) t)) (rest := #[]) (el := t) (ty := some t) (le := none) (fun t' h => by simp at h; exact ⟨h, rfl⟩) (fun t h => by simp at h) hS hn hl rfl rfl rfl rfl
  refine ⟨_, .pointer (some ⟨w.heap.size, 0, none⟩), _, .inl ?_, ⟨_, Mp.set_same _ _ _, by simp⟩, h2, h1⟩
  rw [ex_alloc ho]
  simp [Instr.alloc, zeroValue, run_typeInfo w hi, hzz, newVar, newRow]

theorem sim_box {o : Oper} {t : TypeId} {x : Operand} {x' : Opd} (ho : o.op = .box t x) (hx : VR μ (x'.ev e) (a.eval x)) (hok : (x'.ev e).ok = true) (hS : SimV μ K w) (hn : K h.length = none) :
    MemSim P o a μ K w (.ptr h.length 0) h (h ++ [{ cells := (x'.ev e).cells, st := .live }]) := by
  have hl := hx.cells hok
  obtain ⟨h1, h2⟩ := new_row (w' := w.alloc (.cells ((a.eval x).cells.toList.toArray ++ #[]) t)) (rest := #[]) (el := t) hS hn hl rfl rfl rfl rfl
  refine ⟨_, .pointer (some ⟨w.heap.size, 0, none⟩), _, .inl ?_, ⟨_, Mp.set_same _ _ _, by simp⟩, h2, h1⟩
  rw [ex_box ho]
  simp [Instr.box, newVar, newRow]

end
end Go.Cn
