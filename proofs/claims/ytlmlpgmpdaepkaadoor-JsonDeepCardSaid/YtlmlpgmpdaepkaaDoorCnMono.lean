/- More fuel, same run. -/
import Derived.Test.YtlmlpgmpdaepkaaDoorCnRun1
set_option linter.unusedSimpArgs false
set_option linter.unusedVariables false
set_option linter.unusedSectionVars false
namespace Go.Cn

theorem run_succ {P : Program} {hk : Hook} : ∀ n,
    (∀ l e h r, runOps P hk n l e h = some r → runOps P hk (n + 1) l e h = some r) ∧
    (∀ c e h r, runOp P hk n c e h = some r → runOp P hk (n + 1) c e h = some r) ∧
    (∀ c e h r, runCode P hk n c e h = some r → runCode P hk (n + 1) c e h = some r) ∧
    (∀ f args h r, runCall P hk n f args h = some r → runCall P hk (n + 1) f args h = some r) := by
  intro n
  induction n with
  | zero =>
    refine ⟨fun l e h r hr => ?_, fun c e h r hr => ?_, fun c e h r hr => ?_, fun f args h r hr => ?_⟩
    · simp [runOps] at hr
    · simp [runOp] at hr
    · simp [runCode] at hr
    · simp [runCall] at hr
  | succ n ih =>
    obtain ⟨i1, i2, i3, i4⟩ := ih
    refine ⟨fun l e h r hr => ?_, fun c e h r hr => ?_, fun c e h r hr => ?_, fun f args h r hr => ?_⟩
    · cases l with
      | nil => simpa [runOps] using hr
      | cons o l =>
        rw [runOps] at hr ⊢
        split at hr
        · rename_i hw
          rw [if_pos hw]
          split at hr
          · rename_i v h1 hop
            rw [i2 _ _ _ _ hop]
            split at hr
            · simp at hr
            · rename_i hno
              simp only [if_neg hno]
              exact i1 _ _ _ _ hr
          · simp at hr
        · rename_i hw
          rw [if_neg hw]
          exact i1 _ _ _ _ hr
    · cases c
      case call f args => simp only [runOp] at hr ⊢; exact i4 _ _ _ _ hr
      case dcall g args =>
        simp only [runOp] at hr ⊢
        split at hr
        · exact i4 _ _ _ _ hr
        · simp at hr
      all_goals (simp only [runOp] at hr ⊢; exact hr)
    · cases c
      case skip => simpa [runCode] using hr
      case exit => simpa [runCode] using hr
      case ret => simpa [runCode] using hr
      case ops l =>
        simp only [runCode, Option.map_eq_some_iff] at hr ⊢
        obtain ⟨q, h2, h3⟩ := hr
        exact ⟨q, i1 _ _ _ _ h2, h3⟩
      case seq a b =>
        rw [runCode] at hr ⊢
        split at hr
        · rename_i e1 h1 h2
          rw [i3 _ _ _ _ h2]
          exact i3 _ _ _ _ hr
        · rename_i hno
          rw [i3 _ _ _ _ hr]
          obtain ⟨x, e1, h1⟩ := r
          cases x with
          | normal => exact absurd hr (hno _ _)
          | _ => rfl
      case cond c a b =>
        rw [runCode] at hr ⊢
        split at hr
        · exact i3 _ _ _ _ hr
        · simp at hr
      case block id c =>
        rw [runCode] at hr ⊢
        split at hr
        · rename_i j e1 h1 h2
          rw [i3 _ _ _ _ h2]
          exact hr
        · rename_i hno
          rw [i3 _ _ _ _ hr]
          obtain ⟨x, e1, h1⟩ := r
          cases x with
          | exit j => exact absurd hr (hno _ _ _)
          | _ => rfl
      case loop c =>
        rw [runCode] at hr ⊢
        split at hr
        · rename_i e1 h1 h2
          rw [i3 _ _ _ _ h2]
          exact i3 _ _ _ _ hr
        · rename_i hno
          rw [i3 _ _ _ _ hr]
          obtain ⟨x, e1, h1⟩ := r
          cases x with
          | normal => exact absurd hr (hno _ _)
          | _ => rfl
    · rw [runCall] at hr ⊢
      split at hr
      · exact hr
      · split at hr
        · simp at hr
        · rename_i cf hcf
          split at hr
          · simp at hr
          · rename_i hnp
            rw [if_neg hnp]
            split at hr
            · simp at hr
            · simp at hr
            · rename_i x e1 h1 hno h2
              rw [i3 _ _ _ _ h2]
              cases x with
              | exit j => exact absurd rfl (hno j)
              | _ => exact hr

theorem run_up {P : Program} {hk : Hook} {m n : Nat} (hmn : m ≤ n) {c : CC} {e : Env} {h : Heap} {r : CX × Env × Heap} (hr : runCode P hk m c e h = some r) : runCode P hk n c e h = some r := by
  induction hmn with
  | refl => exact hr
  | step _ ih => exact (run_succ _).2.2.1 _ _ _ _ ih

theorem runOps_up {P : Program} {hk : Hook} {m n : Nat} (hmn : m ≤ n) {c : List CO} {e : Env} {h : Heap} {r : Env × Heap} (hr : runOps P hk m c e h = some r) : runOps P hk n c e h = some r := by
  induction hmn with
  | refl => exact hr
  | step _ ih => exact (run_succ _).1 _ _ _ _ ih

theorem runOp_up {P : Program} {hk : Hook} {m n : Nat} (hmn : m ≤ n) {c : COp} {e : Env} {h : Heap} {r : CV × Heap} (hr : runOp P hk m c e h = some r) : runOp P hk n c e h = some r := by
  induction hmn with
  | refl => exact hr
  | step _ ih => exact (run_succ _).2.1 _ _ _ _ ih

theorem runCall_up {P : Program} {hk : Hook} {m n : Nat} (hmn : m ≤ n) {f : FuncId} {args : List CV} {h : Heap} {r : CV × Heap} (hr : runCall P hk m f args h = some r) : runCall P hk n f args h = some r := by
  induction hmn with
  | refl => exact hr
  | step _ ih => exact (run_succ _).2.2.2 _ _ _ _ ih

end Go.Cn
