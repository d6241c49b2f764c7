/- The operations on memory, further: rows of zeros, texts turned into bytes, stores. -/
import Derived.Test.YtlmlpgmpdaepkaaDoorCnSim6
set_option linter.unusedSimpArgs false
set_option linter.unusedVariables false
set_option linter.unusedSectionVars false
namespace Go.Cn
section
variable {P : Program} {a : Act} {μ : Mp} {K : View} {w : World} {e : Env} {h h' : Heap} {v : CV}

theorem flat_get {z : List CV} {k : Nat} (hk : z.length = k) : ∀ (n i : Nat), i < n * k → ((List.replicate n z).flatten)[i]? = z[i % k]? := by
  intro n
  induction n with
  | zero => intro i hi; omega
  | succ n ih =>
    intro i hi
    rw [List.replicate_succ, List.flatten_cons]
    by_cases h : i < k
    · rw [List.getElem?_append_left (by omega), Nat.mod_eq_of_lt h]
    · rw [List.getElem?_append_right (by omega), hk, ih (i - k) (by rw [Nat.succ_mul] at hi; omega)]
      rw [← Nat.mod_eq_sub_mod (by omega)]

theorem zeros_vl {z : List CV} {zv : Array Value} {k : Nat} (hk : z.length = k) (hz : VL μ z zv.toList) (n : Nat) :
    VL μ (List.replicate n z).flatten ((Array.range (n * k)).map (fun i => zv[i % zv.size]!)).toList := by
  have hzk : zv.size = k := by rw [← hk, hz.length]; simp
  refine VL.mk (by simp [hk]) fun i c u hc hu => ?_
  have hi : i < n * k := by
    have := (List.getElem?_eq_some_iff.1 hu).1
    simpa using this
  rw [flat_get hk n i hi] at hc
  simp only [Array.getElem?_toList, Array.getElem?_map] at hu
  rw [Array.getElem?_range, if_pos hi] at hu
  simp at hu
  obtain ⟨u', h1, h2⟩ := hz.get hc
  rw [Array.getElem?_toList] at h1
  rw [hzk, Array.getElem!_eq_getD, Array.getD_eq_getD_getElem?, h1] at hu
  simp at hu
  exact hu ▸ h2

theorem sim_lit {o : Oper} {t el : TypeId} {k len : Nat} {ps : Array (Nat × Operand)} {z cs : List CV} {l : List (Nat × Nat × Opd)} (ho : o.op = .buildSlice t len ps) (hu : P.underlying t = some (.slice el)) (hk : sizeT P el = some k)
    (hz : zeroT P el = some z) (h0 : 0 < k) (hzk : z.length = k) (hb : len * k ≤ 2 ^ 24) (hl : partsOf (fun i => some (i * k, k)) ps.toList = some l) (hR : ∀ p ∈ ps.toList, ∀ x', opdOf p.2 = some x' → VR μ (x'.ev e) (a.eval p.2))
    (hv : fillC (List.replicate len z).flatten (l.map fun p => (p.1, p.2.1, p.2.2.ev e)) = some cs) (hS : SimV μ K w) (hn : K h.length = none) :
    MemSim P o a μ K w (.slc h.length 0 len len k true) h (h ++ [{ cells := cs, st := .live }]) := by
  simp only [zeroT, Option.bind_eq_some_iff] at hz
  obtain ⟨i, hi, zv, hzz, hcz⟩ := hz
  simp only [sizeT, Option.map_eq_some_iff] at hk
  obtain ⟨i', hi', hk⟩ := hk
  rw [hi] at hi'; simp at hi'; subst hi'
  have hzl : VL μ z zv.cells.toList := vl_of_cvOfL hcz
  have hzero : VL μ (List.replicate len z).flatten ((Array.range (len * k)).map (fun i => zv.cells[i % zv.cells.size]!)).toList := zeros_vl hzk hzl len
  obtain ⟨us, hus, hr⟩ := fillC_run ps.toList l _ _ cs hl hR hzero hv
  have hlen := hr.length
  have hcl : cs.length = len * k := by
    have : ∀ (q : List (Nat × Nat × CV)) (xs r : List CV), fillC xs q = some r → r.length = xs.length := by
      intro q
      induction q with
      | nil => intro xs r hq; simp [fillC] at hq; rw [hq]
      | cons y q ih =>
        intro xs r hq
        obtain ⟨y1, y2, y3⟩ := y
        simp only [fillC] at hq
        split at hq
        · simp at hq
        · rename_i hc
          simp only [not_or, Nat.not_lt] at hc
          rw [ih _ _ hq]
          simp [splice]
          omega
    rw [this _ _ _ hv]
    simp [hzk]
  obtain ⟨g1, g2⟩ := new_row (w' := w.alloc (.cells (us.toArray ++ #[]) el)) (rest := #[]) (el := el) hS hn hr rfl rfl rfl rfl
  refine ⟨_, .slice (some ⟨w.heap.size, 0, none⟩) len len, _, .inl ?_, ?_, g2, g1⟩
  · rw [ex_lit ho]
    have hne : ¬ (len * k > 2 ^ 24) := by omega
    have hsz : ∀ w, (sizeOf el).run P w = .ok k w := fun w => by simp [run_sizeOf w hi, Program.cellsOf, hi, hk]
    have e2 : (ps.map fun p => (p.1, a.eval p.2)).toList = ps.toList.map fun p => (p.1, a.eval p.2) := by simp
    simp only [Instr.buildSlice, Sem.run_bind, run_underlying hu, Result.andThen_ok, hsz, if_neg hne]
    by_cases hz0 : len * k = 0
    · have hz0' : (Array.range (len * k)).map (fun i => zv.cells[i % zv.cells.size]!) = #[] := by rw [hz0]; simp
      rw [hz0'] at hus
      simp only [hz0, if_true, Sem.run_pure, Sem.run_bind, Result.andThen_ok, e2]
      have : ((Array.range 0).map (fun i => (#[] : Array Value)[i % (#[] : Array Value).size]!)) = #[] := by simp
      rw [this, hus]
      simp [newRow]
    · simp only [hz0, if_false, zeroValue, Sem.run_bind, run_typeInfo _ hi, hzz, Result.andThen_ok, Sem.run_pure, e2]
      simp only [Array.toArray_toList] at hus
      rw [hus]
      simp [newRow]
  · refine VR.of_c ⟨_, _, len, Mp.set_same _ _ _, rfl, Nat.le_refl _, Nat.le_refl _, fun _ => rfl, h0, .inr ⟨by simp, ?_⟩⟩
    simp [← hlen, hcl]

theorem sim_make {o : Oper} {t el : TypeId} {k bytes : Nat} {l c : Operand} {l' c' : Opd} {z : List CV} (ho : o.op = .makeSlice t l c) (hu : P.underlying t = some (.slice el)) (hk : sizeT P el = some k) (hby : bytesT P el = some bytes)
    (hz : zeroT P el = some z) (h0 : 0 < k) (hzk : z.length = k) (hl : VR μ (l'.ev e) (a.eval l)) (hc : VR μ (c'.ev e) (a.eval c)) (hv : exec e h (.make k bytes z l' c') = some (v, h')) (hS : SimV μ K w) (hn : K h.length = none) :
    MemSim P o a μ K w v h h' := by
  simp only [zeroT, Option.bind_eq_some_iff] at hz
  obtain ⟨i, hi, zv, hzz, hcz⟩ := hz
  simp only [sizeT, bytesT, Option.map_eq_some_iff] at hk hby
  obtain ⟨i', hi', hk⟩ := hk
  rw [hi] at hi'; simp at hi'; subst hi'
  obtain ⟨i', hi', hby⟩ := hby
  rw [hi] at hi'; simp at hi'; subst hi'
  have hzl : VL μ z zv.cells.toList := vl_of_cvOfL hcz
  simp only [exec] at hv
  generalize l'.ev e = cl at *
  generalize c'.ev e = cc at *
  split at hv
  · rename_i n m
    split at hv
    · rename_i hcond
      obtain ⟨p1, p2, p3, p4⟩ := hcond
      simp at hv
      obtain ⟨rfl, rfl⟩ := hv
      simp only [VR, VRa, VRc] at hl hc
      have hzero : VL μ (List.replicate m.toNat z).flatten ((Array.range (m.toNat * k)).map (fun i => zv.cells[i % zv.cells.size]!)).toList := zeros_vl hzk hzl m.toNat
      obtain ⟨g1, g2⟩ := new_row (w' := w.alloc (.cells (((Array.range (m.toNat * k)).map (fun i => zv.cells[i % zv.cells.size]!)).toList.toArray ++ #[]) el)) (rest := #[]) (el := el) hS hn hzero rfl rfl rfl rfl
      unfold capB at p3 p4
      have w1 : IntKind.i64.wrap n = n := by simp [IntKind.wrap, IntKind.bits, IntKind.signed]; omega
      have w2 : IntKind.i64.wrap m = m := by simp [IntKind.wrap, IntKind.bits, IntKind.signed]; omega
      refine ⟨_, .slice (some ⟨w.heap.size, 0, none⟩) n.toNat m.toNat, _, .inl ?_, ?_, g2, g1⟩
      · rw [ex_make ho, hl, hc]
        have hsz : ∀ w, (sizeOf el).run P w = .ok k w := fun w => by simp [run_sizeOf w hi, Program.cellsOf, hi, hk]
        have q1 : ¬ (281474976710656 < (bytes : Int) * m) := by rw [Int.mul_comm]; omega
        have q2 : ¬ (m < 0) := by omega
        have q3 : ¬ (n < 0) := by omega
        have q4 : ¬ (m < n) := by omega
        simp only [Instr.makeSlice, Sem.run_bind, run_underlying hu, Result.andThen_ok, asInt, asIntOf, Sem.run_pure, run_typeInfo _ hi, hby, w1, w2]
        simp [q1, q2, q3, q4, hsz]
        by_cases hz0 : m.toNat = 0
        · have hr0 : Array.range 0 = #[] := rfl
          simp [hz0, newRow, hr0]
        · have hmk : ¬ (m.toNat * k = 0) := by
            intro hh; rcases Nat.mul_eq_zero.1 hh with hh | hh <;> omega
          have harr : (List.map (fun x => zv.cells[x % zv.cells.size]!) (List.range (m.toNat * k))).toArray = Array.map (fun x => zv.cells[x % zv.cells.size]!) (Array.range (m.toNat * k)) := by
            apply Array.ext'; simp
          rw [harr]
          simp [hmk, zeroValue, run_typeInfo _ hi, hzz, newRow]
      · refine VR.of_c ⟨_, _, m.toNat, Mp.set_same _ _ _, rfl, by omega, Nat.le_refl _, fun _ => rfl, h0, .inr ⟨by simp, ?_⟩⟩
        simp
    · simp at hv
  · simp at hv

end
end Go.Cn
