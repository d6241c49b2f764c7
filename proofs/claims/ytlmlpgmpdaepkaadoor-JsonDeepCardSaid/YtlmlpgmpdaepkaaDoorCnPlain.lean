/- A hook out of runs in the empty heap: functions of plain values that come to plain values. -/
import Derived.Test.YtlmlpgmpdaepkaaDoorCnLayer
set_option linter.unusedSimpArgs false
set_option linter.unusedVariables false
set_option linter.unusedSectionVars false
namespace Go.Cn

open Classical in
noncomputable def plainHook (P : Program) (hk : Hook) (S : FuncId → Bool) : Hook := fun f args h =>
  if S f = true ∧ plainL args = true then
    if hx : ∃ v h', den P hk f args [] = some (v, h') ∧ v.plain = true then some (hx.choose, h) else none
  else none

theorem plainHook_eq {P : Program} {hk : Hook} {S : FuncId → Bool} {f : FuncId} {args : List CV} {v : CV} {h h' : Heap} (hS : S f = true) (ha : plainL args = true) (hd : den P hk f args [] = some (v, h')) (hv : v.plain = true) : plainHook P hk S f args h = some (v, h) := by
  have hx : ∃ v h', den P hk f args [] = some (v, h') ∧ v.plain = true := ⟨v, h', hd, hv⟩
  unfold plainHook
  rw [if_pos ⟨hS, ha⟩, dif_pos hx]
  obtain ⟨h2, h3, _⟩ := hx.choose_spec
  have h4 := hd.symm.trans h3
  simp only [Option.some.injEq, Prod.mk.injEq] at h4
  rw [← h4.1]

theorem plainHook_none {P : Program} {hk : Hook} {S : FuncId → Bool} {f : FuncId} {args : List CV} {h : Heap} (hS : S f = false) : plainHook P hk S f args h = none := by
  unfold plainHook
  rw [if_neg (by simp [hS])]

theorem plainHook_ok {G : Nat → Obj → Prop} {P : Program} {hk : Hook} {S : FuncId → Bool} (hH : HookOK G P hk) (hmix : P.follows .mixedOrders = true) : HookOK G P (plainHook P hk S) := by
  have key : ∀ f args h v h', plainHook P hk S f args h = some (v, h') → h' = h ∧ plainL args = true ∧ v.plain = true ∧ ∃ h1, den P hk f args [] = some (v, h1) := by
    intro f args h v h' hl
    unfold plainHook at hl
    split at hl
    · rename_i hc
      split at hl
      · rename_i hx
        simp only [Option.some.injEq, Prod.mk.injEq] at hl
        obtain ⟨h2, h3, h4⟩ := hx.choose_spec
        rw [hl.1] at h3 h4
        exact ⟨hl.2.symm, hc.2, h4, h2, h3⟩
      · simp at hl
    · simp at hl
  refine ⟨fun f args h v h' hl => ?_, fun f args h v h' hl => ?_⟩
  · rw [(key _ _ _ _ _ hl).1]; exact Nat.le_refl _
  · obtain ⟨rfl, ha, hv, h1, hd⟩ := key _ _ _ _ _ hl
    exact callOK_closed ha hv (den_sound hH hmix hd)

/-- two hooks, the first one ahead -/
def orHook (a b : Hook) : Hook := fun f args h => match a f args h with | some r => some r | none => b f args h

theorem orHook_l {a b : Hook} {f : FuncId} {args : List CV} {h : Heap} {r : CV × Heap} (ha : a f args h = some r) : orHook a b f args h = some r := by simp [orHook, ha]
theorem orHook_r {a b : Hook} {f : FuncId} {args : List CV} {h : Heap} (ha : a f args h = none) : orHook a b f args h = b f args h := by simp [orHook, ha]

theorem orHook_ok {G : Nat → Obj → Prop} {P : Program} {a b : Hook} (ha : HookOK G P a) (hb : HookOK G P b) : HookOK G P (orHook a b) := by
  have key : ∀ f args h v h', orHook a b f args h = some (v, h') → a f args h = some (v, h') ∨ b f args h = some (v, h') := by
    intro f args h v h' hl
    unfold orHook at hl
    split at hl
    · rename_i r hr
      rw [hr]; exact .inl hl
    · exact .inr hl
  refine ⟨fun f args h v h' hl => ?_, fun f args h v h' hl => ?_⟩
  · rcases key f args h v h' hl with hl | hl
    · exact ha.1 _ _ _ _ _ hl
    · exact hb.1 _ _ _ _ _ hl
  · rcases key f args h v h' hl with hl | hl
    · exact ha.2 _ _ _ _ _ hl
    · exact hb.2 _ _ _ _ _ hl

end Go.Cn
