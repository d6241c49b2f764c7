/- The hooks of the seat: strconv.FormatInt at base 10, utf8.DecodeRuneInString, strings.Builder's copyCheck and String. -/
import Derived.Test.YtlmlpgmpdaepkaaDoorCdLib
set_option linter.unusedSimpArgs false
set_option linter.unusedVariables false
set_option linter.unusedSectionVars false
namespace Go.Cn.D
open Go.Proofs Go.Shelf Go.RowKit

/-- a cell that is a byte -/
def isByte : CV → Bool
  | .int .u8 n => decide (0 ≤ n ∧ n ≤ 255)
  | _ => false

theorem cells_of_bytes : ∀ {cs : List CV} {s : ByteArray}, bytesOf cs = some s → cs.all isByte = true → cs = cellsOfStr s
  | [], s, h, _ => by simp [bytesOf] at h; subst h; rfl
  | c :: cs, s, h, ha => by
    simp only [List.all_cons, Bool.and_eq_true] at ha
    simp only [bytesOf] at h
    split at h
    · rename_i n r hr
      simp at h; subst h
      have ih := cells_of_bytes hr ha.2
      have hn := ha.1
      simp only [isByte, decide_eq_true_eq] at hn
      rw [ih]
      simp only [cellsOfStr, ByteArray.data_append, Array.toList_append, List.map_append]
      simp
      omega
    · simp at h

def ccHook (h : Heap) (b : Nat) : Option (CV × Heap) :=
  match h[b]? with
  | some blk => if blk.st = .live ∧ blk.ty = some 46 then
      match blk.cells with
      | [.nilp, _] => (h.stc b 0 [.ptr b 0]).map fun h' => (.tup [], h')
      | [.ptr b' 0, _] => if b' = b then some (.tup [], h) else none
      | _ => none
    else none
  | none => none

def strHook (h : Heap) (b o : Nat) : Option (CV × Heap) :=
  match h.ld b (o + 1) 1 with
  | some [.slc g off len _ k _] => if k = 1 ∧ 0 < len ∧ len ≤ capB then
      match h.ld g off len, h[g]? with
      | some cs, some gb => if gb.st = .live ∧ gb.el = some 5 ∧ cs.all isByte = true then (bytesOf cs).map fun s => (.str s, h.set g { gb with st := .ro }) else none
      | _, _ => none
    else none
  | _ => none

def fitsI64 (n : Int) : Bool := decide (-9223372036854775808 ≤ n ∧ n ≤ 9223372036854775807)

def hookD : Hook := fun f args h =>
  match args with
  | [.int .i64 n, .int .i64 m] => if f = 35 ∧ m = 10 ∧ fitsI64 n = true then some (.str ⟨(Lib.itoa n).toArray⟩, h) else none
  | [.str s] => if f = 46 then some (.tup [.int .i32 (Lib.decodeGo s).1, .int .i64 (Lib.decodeGo s).2], h) else none
  | [.ptr b o] => if f = 37 ∧ o = 0 then ccHook h b else if f = 19 then strHook h b o else none
  | _ => none

theorem hookD_cases {f : FuncId} {args : List CV} {h h' : Heap} {v : CV} (hh : hookD f args h = some (v, h')) :
    (∃ n, f = 35 ∧ args = [.int .i64 n, .int .i64 10] ∧ fitsI64 n = true ∧ v = .str ⟨(Lib.itoa n).toArray⟩ ∧ h' = h) ∨
    (∃ s, f = 46 ∧ args = [.str s] ∧ v = .tup [.int .i32 (Lib.decodeGo s).1, .int .i64 (Lib.decodeGo s).2] ∧ h' = h) ∨
    (∃ b, f = 37 ∧ args = [.ptr b 0] ∧ ccHook h b = some (v, h')) ∨ (∃ b o, f = 19 ∧ args = [.ptr b o] ∧ strHook h b o = some (v, h')) := by
  unfold hookD at hh
  split at hh
  · split at hh
    · rename_i n m hc
      obtain ⟨rfl, rfl, hf⟩ := hc
      simp at hh
      exact .inl ⟨n, rfl, rfl, hf, hh.1.symm, hh.2.symm⟩
    · simp at hh
  · split at hh
    · rename_i s hf
      simp at hh
      exact .inr (.inl ⟨s, hf, rfl, hh.1.symm, hh.2.symm⟩)
    · simp at hh
  · split at hh
    · rename_i b o hc
      obtain ⟨rfl, rfl⟩ := hc
      exact .inr (.inr (.inl ⟨b, rfl, rfl, hh⟩))
    · split at hh
      · rename_i b o _ hf
        exact .inr (.inr (.inr ⟨b, o, hf, rfl, hh⟩))
      · simp at hh
  · simp at hh

theorem hookD_len : HookLen hookD := by
  intro f args h v h' hh
  rcases hookD_cases hh with ⟨n, _, _, _, _, rfl⟩ | ⟨s, _, _, _, rfl⟩ | ⟨b, _, _, hc⟩ | ⟨b, o, _, _, hc⟩
  · exact Nat.le_refl _
  · exact Nat.le_refl _
  · unfold ccHook at hc
    repeat' split at hc
    all_goals first
      | (simp at hc; done)
      | (simp only [Option.map_eq_some_iff, Prod.mk.injEq] at hc; obtain ⟨h1, hs, _, rfl⟩ := hc; rw [stc_len hs]; exact Nat.le_refl _)
      | (simp at hc; rw [hc.2]; exact Nat.le_refl _)
  · unfold strHook at hc
    repeat' split at hc
    all_goals first
      | (simp at hc; done)
      | (simp only [Option.map_eq_some_iff, Prod.mk.injEq] at hc; obtain ⟨s, _, _, rfl⟩ := hc; simp)

section
variable {G : Nat → Obj → Prop}

theorem enters35 : Enters Tryd.prog 35 := ⟨_, _, Tryd.func35, by kernel_rfl, rfl⟩
theorem enters46 : Enters Tryd.prog 46 := ⟨_, _, Tryd.func46, by kernel_rfl, rfl⟩
theorem enters37 : Enters Tryd.prog 37 := ⟨_, _, Tryd.func37, by kernel_rfl, rfl⟩
theorem enters19 : Enters Tryd.prog 19 := ⟨_, _, Tryd.func19, by kernel_rfl, rfl⟩

theorem vr_int {μ : Mp} {k : IntKind} {n : Int} {v : Value} (h : VR μ (.int k n) v) : v = .int k n := h
theorem vr_str {μ : Mp} {s : ByteArray} {v : Value} (h : VR μ (.str s) v) : v = .string s := h

theorem ok35 (hT : ∀ μ K w, SimG G μ K w → Lib.TabIs Tryd.prog w "internal/strconv.uint64pow10" .u64 Lib.pow10Tab) {n : Int} {h : Heap} (hn : fitsI64 n = true) :
    CallOK G Tryd.prog 35 [.int .i64 n, .int .i64 10] h (.str ⟨(Lib.itoa n).toArray⟩) h :=
  callOK_below enters35 fun μ K w args' ha hS _ => by
    obtain ⟨v, u, rfl, hv, hu⟩ := vlr_two ha
    rw [vr_int hv, vr_int hu]
    simp only [fitsI64, decide_eq_true_eq] at hn
    refine (Tryd.strconv_FormatInt_10 n hn.1 hn.2 w (hT μ K w hS)).mono fun e w' hh => ?_
    obtain ⟨rfl, k, os, rfl⟩ := hh
    exact ⟨_, rfl, rfl, below_grow _ _ _⟩

theorem ok46 (hT : ∀ μ K w, SimG G μ K w → Lib.Utf8Tabs 0 1 w) {s : ByteArray} {h : Heap} :
    CallOK G Tryd.prog 46 [.str s] h (.tup [.int .i32 (Lib.decodeGo s).1, .int .i64 (Lib.decodeGo s).2]) h :=
  callOK_below enters46 fun μ K w args' ha hS _ => by
    obtain ⟨v, rfl, hv⟩ := vlr_one ha
    rw [vr_str hv]
    refine (Tryd.utf8_DecodeRuneInString s w (hT μ K w hS)).mono fun e w' hh => ?_
    obtain ⟨rfl, hB⟩ := hh
    exact ⟨_, rfl, ⟨_, rfl, rfl, rfl, trivial⟩, hB⟩

theorem ok37 {h h' : Heap} {b : Nat} {v : CV} (hc : ccHook h b = some (v, h')) : CallOK G Tryd.prog 37 [.ptr b 0] h v h' := by
  refine ⟨enters37, fun μ K w args' ha hS hA hF => ?_⟩
  obtain ⟨u, rfl, hu⟩ := vlr_one ha
  obtain ⟨pl, hm, rfl⟩ := vr_ptr hu
  unfold ccHook at hc
  split at hc
  · rename_i blk hb
    split at hc
    · rename_i hst
      obtain ⟨hK, hB⟩ := blk_at hS.toSimV (fun blk p q => hA b blk trivial p q) hm hb
      have hB := hB (by rw [hst.1]; simp)
      unfold BlkOK at hB
      rw [if_neg (by rw [hst.1]; simp)] at hB
      obtain ⟨arr, el, fr, h1, h2, h3, h4, h5, h6, _⟩ := hB
      obtain ⟨e1, e2, e3⟩ := h6 46 hst.2
      subst e1
      split at hc
      · rename_i x hcells
        simp only [Option.map_eq_some_iff, Prod.mk.injEq] at hc
        obtain ⟨h1', hstc, rfl, rfl⟩ := hc
        rw [hcells] at h4 e3
        obtain ⟨v0, g1, g2⟩ := h4 0 .nilp rfl
        have g2 : v0 = .pointer none := g2
        subst g2
        rw [e2] at g1
        simp only [Nat.add_zero] at g1
        have hc0 : w.cell? ⟨pl.r, 0, none⟩ = some (.pointer none) := by rw [cell_of_row w pl.r _ arr _ fr h1]; exact g1
        have hsz : arr.size = 2 := by rw [h2, e3]; rfl
        have hsh : w.shape? pl.r = some (46, 2) := by simp [World.shape?, h1, hsz]
        have hfz : w.frozen? ⟨pl.r, 0, none⟩ = false := soft_frozen h1 (h5 hst.1) (by omega)
        have hptr : VL μ [CV.ptr b 0] [Value.pointer (some ⟨pl.r, 0, none⟩)] := ⟨⟨pl, hm, by rw [e2]⟩, trivial⟩
        obtain ⟨_, _, s3, s4⟩ := st_sim hS.toSimV (fun blk p q => hA b blk trivial p q) hm hptr hstc
        rw [e2]
        refine (copyCheck_fresh pl.r w hc0 hsh hfz).mono fun e w' hh => ?_
        obtain ⟨rfl, rfl⟩ := hh
        rw [e2] at s3 s4
        exact ⟨_, rfl, μ, ⟨[], rfl, trivial⟩, s4, s3⟩
      · rename_i b' x hcells
        split at hc
        · rename_i hbb
          subst hbb
          simp at hc
          obtain ⟨rfl, rfl⟩ := hc
          rw [hcells] at h4
          obtain ⟨v0, g1, g2⟩ := h4 0 (.ptr b' 0) rfl
          obtain ⟨pl', hm', rfl⟩ := g2
          rw [hm] at hm'; simp at hm'; subst hm'
          rw [e2] at g1
          simp only [Nat.add_zero] at g1
          have hc0 : w.cell? ⟨pl.r, 0, none⟩ = some (.pointer (some ⟨pl.r, 0, none⟩)) := by rw [cell_of_row w pl.r _ arr _ fr h1]; exact g1
          rw [e2]
          refine (copyCheck_used pl.r w hc0).mono fun e w' hh => ?_
          obtain ⟨rfl, rfl⟩ := hh
          exact ⟨_, rfl, after_below hS.toSimV (Below.refl _ _) ⟨[], rfl, trivial⟩⟩
        · simp at hc
      · simp at hc
    · simp at hc
  · simp at hc

theorem freeze_any {w : World} {r o n : Nat} {arr : Array Value} {el : TypeId} {fr : Nat × Nat} (hr : w.heap[r]? = some (.cells arr el fr)) :
    (∃ fr', (w.freeze ⟨r, o, none⟩ n).heap[r]? = some (.cells arr el fr')) ∧ (∀ r', r' ≠ r → (w.freeze ⟨r, o, none⟩ n).heap[r']? = w.heap[r']?) ∧
    (w.freeze ⟨r, o, none⟩ n).heap.size = w.heap.size ∧ (w.freeze ⟨r, o, none⟩ n).os = w.os ∧ (w.freeze ⟨r, o, none⟩ n).tape = w.tape ∧ (w.freeze ⟨r, o, none⟩ n).output = w.output := by
  obtain ⟨lo, hi⟩ := fr
  unfold World.freeze
  by_cases hn : n = 0
  · rw [if_pos hn]
    exact ⟨⟨_, hr⟩, fun _ _ => rfl, rfl, rfl, rfl, rfl⟩
  · rw [if_neg hn]
    refine ⟨?_, fun r' hne => ?_, by simp, rfl, rfl, rfl⟩
    · simp only [Array.getElem?_modify, if_true, hr, Option.map_some]
      exact ⟨_, rfl⟩
    · simp only [Array.getElem?_modify]
      rw [if_neg (Ne.symm hne)]

theorem vl_cells {μ : Mp} {l : List UInt8} : ∀ {vs : List Value}, VL μ (l.map fun b => CV.int .u8 b.toNat) vs → ∀ (j : Nat) (x : UInt8), l[j]? = some x → vs[j]? = some (Value.int .u8 x.toNat) := by
  induction l with
  | nil => intro vs _ j x hx; simp at hx
  | cons y l ih =>
    intro vs hv j x hx
    cases vs with
    | nil => exact hv.elim
    | cons v vs =>
      obtain ⟨h1, h2⟩ := hv
      cases j with
      | zero =>
        simp at hx
        subst hx
        have h1 : v = .int .u8 y.toNat := h1
        rw [h1]; rfl
      | succ j =>
        simp only [List.getElem?_cons_succ] at hx ⊢
        exact ih h2 j x hx

theorem ok19 {h h' : Heap} {b o : Nat} {v : CV} (hc : strHook h b o = some (v, h')) : CallOK G Tryd.prog 19 [.ptr b o] h v h' := by
  refine ⟨enters19, fun μ K w args' ha hS hA hF => ?_⟩
  obtain ⟨u, rfl, hu⟩ := vlr_one ha
  obtain ⟨pl, hm, rfl⟩ := vr_ptr hu
  unfold strHook at hc
  split at hc
  · rename_i g off len cap k ex hld
    split at hc
    · rename_i hcond
      obtain ⟨rfl, hlen, hlc⟩ := hcond
      split at hc
      · rename_i cs gb hcs hgb
        split at hc
        · rename_i hg
          obtain ⟨hlive, hel, hby⟩ := hg
          simp only [Option.map_eq_some_iff, Prod.mk.injEq] at hc
          obtain ⟨s, hs, rfl, rfl⟩ := hc
          have hcell := cells_of_bytes hs hby
          subst hcell
          obtain ⟨vs, v1, v2, v3⟩ := ld_at hS.toSimV (fun blk p q => hA b blk trivial p q) hm hld
          cases vs with
          | nil => simp at v2
          | cons u us =>
            obtain ⟨plg, ad, cap', hmg, rfl, q1, q2, q3, q4, q5⟩ := v1.1
            rcases q5 with q5 | ⟨rfl, q5⟩
            · omega
            · obtain ⟨vg, w1, w2, w3⟩ := ld_at hS.toSimV (fun blk p q => hA g blk trivial p q) hmg hcs
              obtain ⟨hKg, hBg⟩ := blk_at hS.toSimV (fun blk p q => hA g blk trivial p q) hmg hgb
              have hBg := hBg (by rw [hlive]; simp)
              unfold BlkOK at hBg
              rw [if_neg (by rw [hlive]; simp)] at hBg
              obtain ⟨arr, el, fr, g1, g2, g3, g4, g5, g6, g7⟩ := hBg
              have hel' := g7 5 hel
              subst hel'
              have hsl : s.data.toList.length = len := by
                have := w1.length
                rw [w2] at this
                simpa [cellsOfStr] using this
              have hc0 := v3 0 _ rfl
              have hcellb : ∀ j x, s.data.toList[j]? = some x → w.cell? ((⟨plg.r, plg.δ + off, none⟩ : Addr).add j) = some (.int .u8 x.toNat) := by
                intro j x hx
                rw [Addr.add_mid]
                exact w3 j _ (vl_cells w1 j x hx)
              have hne : s.data.toList ≠ [] := by intro hh; rw [hh] at hsl; simp at hsl; omega
              have hrun := string_some pl.r (pl.δ + o) plg.r (plg.δ + off) cap' arr.size s.data.toList w (by rw [hsl]; simpa [Nat.add_assoc] using hc0) hne (by omega) (by simp [World.shape?, g1]) (by rw [hsl, g2]; omega) (by rw [hsl]; unfold capB at hlc; omega) hcellb
              refine hrun.mono fun e w' hh => ?_
              obtain ⟨rfl, rfl⟩ := hh
              have gd : w.drew.heap[plg.r]? = some (.cells arr 5 fr) := g1
              obtain ⟨⟨fr', f1⟩, f2, f3, f4, f5, f6⟩ := freeze_any (o := plg.δ + off) (n := s.data.toList.length) gd
              refine ⟨_, rfl, after_ro hS.toSimV hgb hKg hlive (fun pl' hm' => ?_) f4 f5 f6 (by rw [f3]; exact Nat.le_refl _) (fun r _ hne => f2 r (hne plg hmg)) ?_⟩
              · rw [hmg] at hm'; simp at hm'; subst hm'
                unfold BlkOK
                rw [if_neg (by simp)]
                exact ⟨arr, 5, fr', f1, g2, g3, g4, fun hh => by simp at hh, g6, g7⟩
              · show Value.string _ = Value.string _
                congr 1
        · simp at hc
      · simp at hc
    · simp at hc
  · simp at hc

theorem hookD_ok (hT : ∀ μ K w, SimG G μ K w → Lib.TabIs Tryd.prog w "internal/strconv.uint64pow10" .u64 Lib.pow10Tab) (hU : ∀ μ K w, SimG G μ K w → Lib.Utf8Tabs 0 1 w) : HookOK G Tryd.prog hookD := by
  refine ⟨hookD_len, fun f args h v h' hh => ?_⟩
  rcases hookD_cases hh with ⟨n, rfl, rfl, hn, rfl, rfl⟩ | ⟨s, rfl, rfl, rfl, rfl⟩ | ⟨b, rfl, rfl, hc⟩ | ⟨b, o, rfl, rfl, hc⟩
  · exact ok35 hT hn
  · exact ok46 hU
  · exact ok37 hc
  · exact ok19 hc

end
end Go.Cn.D
