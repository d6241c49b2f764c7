/- The canonical run without fuel: equations. -/
import Derived.Test.YtlmlpgmpdaepkaaDoorCnRun3
set_option linter.unusedSimpArgs false
set_option linter.unusedVariables false
set_option linter.unusedSectionVars false
namespace Go.Cn

open Classical in
noncomputable def lim {α : Type} (F : Nat → Option α) : Option α := if h : ∃ n r, F n = some r then some h.choose_spec.choose else none

def Mono {α : Type} (F : Nat → Option α) : Prop := ∀ n r, F n = some r → F (n + 1) = some r

theorem mono_le {α : Type} {F : Nat → Option α} (hF : Mono F) {m n : Nat} (h : m ≤ n) {r : α} (hr : F m = some r) : F n = some r := by
  induction h with
  | refl => exact hr
  | step _ ih => exact hF _ _ ih

theorem lim_iff {α : Type} {F : Nat → Option α} (hF : Mono F) {r : α} : lim F = some r ↔ ∃ n, F n = some r := by
  unfold lim
  constructor
  · intro h
    split at h
    · rename_i hx
      simp at h
      exact ⟨hx.choose, by rw [← h]; exact hx.choose_spec.choose_spec⟩
    · simp at h
  · rintro ⟨n, hn⟩
    have hx : ∃ n r, F n = some r := ⟨n, r, hn⟩
    rw [dif_pos hx]
    have h1 := hx.choose_spec.choose_spec
    have h2 := mono_le hF (Nat.le_max_left hx.choose n) h1
    have h3 := mono_le hF (Nat.le_max_right hx.choose n) hn
    rw [h2] at h3
    simpa using h3

theorem opt_ext {α : Type} {a b : Option α} (h : ∀ r, a = some r ↔ b = some r) : a = b := by
  cases a with
  | none => cases b with
    | none => rfl
    | some r => exact absurd ((h r).2 rfl) (by simp)
  | some r => exact ((h r).1 rfl).symm

section
variable (P : Program) (hk : Hook)

noncomputable def dOps (l : List CO) (e : Env) (h : Heap) : Option (Env × Heap) := lim fun n => runOps P hk n l e h
noncomputable def dOp (c : COp) (e : Env) (h : Heap) : Option (CV × Heap) := lim fun n => runOp P hk n c e h
noncomputable def dCode (c : CC) (e : Env) (h : Heap) : Option (CX × Env × Heap) := lim fun n => runCode P hk n c e h
noncomputable def den (f : FuncId) (args : List CV) (h : Heap) : Option (CV × Heap) := lim fun n => runCall P hk n f args h

variable {P hk}

theorem dOps_iff {l e h r} : dOps P hk l e h = some r ↔ ∃ n, runOps P hk n l e h = some r := lim_iff fun n r => (run_succ n).1 l e h r
theorem dOp_iff {l e h r} : dOp P hk l e h = some r ↔ ∃ n, runOp P hk n l e h = some r := lim_iff fun n r => (run_succ n).2.1 l e h r
theorem dCode_iff {l e h r} : dCode P hk l e h = some r ↔ ∃ n, runCode P hk n l e h = some r := lim_iff fun n r => (run_succ n).2.2.1 l e h r
theorem den_iff {f args h r} : den P hk f args h = some r ↔ ∃ n, runCall P hk n f args h = some r := lim_iff fun n r => (run_succ n).2.2.2 f args h r

theorem dOps_nil {e h} : dOps P hk [] e h = some (e, h) := dOps_iff.2 ⟨1, by simp [runOps]⟩

open Classical in
theorem dOps_cons {o : CO} {l e h} : dOps P hk (o :: l) e h =
    if wantedC e o.g then
      match dOp P hk o.op e h with
      | some (v, h') => if avoidOK e o = false ∨ (o.chk = true ∧ ¬ h.Ext h') then none else dOps P hk l (e.put o.dst v) h'
      | none => none
    else dOps P hk l (e.put o.dst .undef) h := by
  refine opt_ext fun r => ?_
  rw [dOps_iff]
  by_cases hw : wantedC e o.g = true
  · rw [if_pos hw]
    constructor
    · rintro ⟨n, hn⟩
      cases n with
      | zero => simp [runOps] at hn
      | succ n =>
        rw [runOps, if_pos hw] at hn
        split at hn
        · rename_i v h1 hop
          rw [dOp_iff.2 ⟨n, hop⟩]
          split at hn
          · simp at hn
          · rename_i hno
            simp only [if_neg hno]
            exact dOps_iff.2 ⟨n, hn⟩
        · simp at hn
    · intro hd
      split at hd
      · rename_i v h1 hop
        split at hd
        · simp at hd
        · rename_i hno
          obtain ⟨n, hn⟩ := dOp_iff.1 hop
          obtain ⟨m, hm⟩ := dOps_iff.1 hd
          refine ⟨max n m + 1, ?_⟩
          rw [runOps, if_pos hw, runOp_up (Nat.le_max_left n m) hn]
          simp only [if_neg hno]
          exact runOps_up (Nat.le_max_right n m) hm
      · simp at hd
  · rw [if_neg hw, dOps_iff]
    constructor
    · rintro ⟨n, hn⟩
      cases n with
      | zero => simp [runOps] at hn
      | succ n => rw [runOps, if_neg hw] at hn; exact ⟨n, hn⟩
    · rintro ⟨n, hn⟩
      exact ⟨n + 1, by rw [runOps, if_neg hw]; exact hn⟩

theorem dOp_call {f args e h} : dOp P hk (.call f args) e h = den P hk f (args.map (Opd.ev e)) h := by
  refine opt_ext fun r => ?_
  rw [dOp_iff, den_iff]
  constructor
  · rintro ⟨n, hn⟩
    cases n with
    | zero => simp [runOp] at hn
    | succ n => simp only [runOp] at hn; exact ⟨n, hn⟩
  · rintro ⟨n, hn⟩
    exact ⟨n + 1, by simp only [runOp]; exact hn⟩

theorem dOp_dcall {g args e h} : dOp P hk (.dcall g args) e h = match g.ev e with
    | .fn f caps => den P hk f (args.map (Opd.ev e) ++ caps.map fun c => .ptr c.1 c.2) h
    | _ => none := by
  refine opt_ext fun r => ?_
  rw [dOp_iff]
  constructor
  · rintro ⟨n, hn⟩
    cases n with
    | zero => simp [runOp] at hn
    | succ n =>
      simp only [runOp] at hn
      split at hn
      · rename_i f caps hg; rw [hg]; exact den_iff.2 ⟨n, hn⟩
      · simp at hn
  · intro hd
    split at hd
    · rename_i f caps hg
      obtain ⟨n, hn⟩ := den_iff.1 hd
      exact ⟨n + 1, by simp only [runOp, hg]; exact hn⟩
    · simp at hd

theorem dOp_exec {c e h} (hc : c.cls ≠ .call) : dOp P hk c e h = exec e h c := by
  refine opt_ext fun r => ?_
  rw [dOp_iff]
  constructor
  · rintro ⟨n, hn⟩
    cases n with
    | zero => simp [runOp] at hn
    | succ n => cases c <;> first | (simp [COp.cls] at hc; done) | (simp only [runOp] at hn; exact hn)
  · intro hd
    exact ⟨1, by cases c <;> first | (simp [COp.cls] at hc; done) | (simp only [runOp]; exact hd)⟩

theorem dCode_skip {e h} : dCode P hk .skip e h = some (.normal, e, h) := dCode_iff.2 ⟨1, by simp [runCode]⟩
theorem dCode_ret {e h} : dCode P hk .ret e h = some (.ret, e, h) := dCode_iff.2 ⟨1, by simp [runCode]⟩
theorem dCode_exit {id e h} : dCode P hk (.exit id) e h = some (.exit id, e, h) := dCode_iff.2 ⟨1, by simp [runCode]⟩

theorem dCode_ops {l e h} : dCode P hk (.ops l) e h = (dOps P hk l e h).map fun r => (.normal, r.1, r.2) := by
  refine opt_ext fun r => ?_
  rw [dCode_iff]
  constructor
  · rintro ⟨n, hn⟩
    cases n with
    | zero => simp [runCode] at hn
    | succ n =>
      simp only [runCode, Option.map_eq_some_iff] at hn ⊢
      obtain ⟨q, h1, h2⟩ := hn
      exact ⟨q, dOps_iff.2 ⟨n, h1⟩, h2⟩
  · intro hd
    simp only [Option.map_eq_some_iff] at hd
    obtain ⟨q, h1, h2⟩ := hd
    obtain ⟨n, hn⟩ := dOps_iff.1 h1
    exact ⟨n + 1, by simp only [runCode, Option.map_eq_some_iff]; exact ⟨q, hn, h2⟩⟩

theorem dCode_seq {a b e h} : dCode P hk (.seq a b) e h = match dCode P hk a e h with
    | some (.normal, e', h') => dCode P hk b e' h'
    | r => r := by
  refine opt_ext fun r => ?_
  rw [dCode_iff]
  constructor
  · rintro ⟨n, hn⟩
    cases n with
    | zero => simp [runCode] at hn
    | succ n =>
      rw [runCode] at hn
      split at hn
      · rename_i e1 h1 h2
        rw [dCode_iff.2 ⟨n, h2⟩]; exact dCode_iff.2 ⟨n, hn⟩
      · rename_i hno
        rw [dCode_iff.2 ⟨n, hn⟩]
        obtain ⟨x, e1, h1⟩ := r
        cases x with
        | normal => exact absurd hn (hno _ _)
        | _ => rfl
  · intro hd
    split at hd
    · rename_i e1 h1 h2
      obtain ⟨n, hn⟩ := dCode_iff.1 h2
      obtain ⟨m, hm⟩ := dCode_iff.1 hd
      refine ⟨max n m + 1, ?_⟩
      rw [runCode, run_up (Nat.le_max_left n m) hn]
      exact run_up (Nat.le_max_right n m) hm
    · rename_i hno
      obtain ⟨n, hn⟩ := dCode_iff.1 hd
      refine ⟨n + 1, ?_⟩
      rw [runCode, hn]
      obtain ⟨x, e1, h1⟩ := r
      cases x with
      | normal => exact absurd hd (hno _ _)
      | _ => rfl

theorem dCode_cond {c a b e h} : dCode P hk (.cond c a b) e h = match c.ev e with
    | .bool t => dCode P hk (if t then a else b) e h
    | _ => none := by
  refine opt_ext fun r => ?_
  rw [dCode_iff]
  constructor
  · rintro ⟨n, hn⟩
    cases n with
    | zero => simp [runCode] at hn
    | succ n =>
      rw [runCode] at hn
      split at hn
      · rename_i t ht; rw [ht]; exact dCode_iff.2 ⟨n, hn⟩
      · simp at hn
  · intro hd
    split at hd
    · rename_i t ht
      obtain ⟨n, hn⟩ := dCode_iff.1 hd
      exact ⟨n + 1, by rw [runCode, ht]; exact hn⟩
    · simp at hd

theorem dCode_block {id c e h} : dCode P hk (.block id c) e h = match dCode P hk c e h with
    | some (.exit j, e', h') => if j = id then some (.normal, e', h') else some (.exit j, e', h')
    | r => r := by
  refine opt_ext fun r => ?_
  rw [dCode_iff]
  constructor
  · rintro ⟨n, hn⟩
    cases n with
    | zero => simp [runCode] at hn
    | succ n =>
      rw [runCode] at hn
      split at hn
      · rename_i j e1 h1 h2
        rw [dCode_iff.2 ⟨n, h2⟩]; exact hn
      · rename_i hno
        rw [dCode_iff.2 ⟨n, hn⟩]
        obtain ⟨x, e1, h1⟩ := r
        cases x with
        | exit j => exact absurd hn (hno _ _ _)
        | _ => rfl
  · intro hd
    split at hd
    · rename_i j e1 h1 h2
      obtain ⟨n, hn⟩ := dCode_iff.1 h2
      exact ⟨n + 1, by rw [runCode, hn]; exact hd⟩
    · rename_i hno
      obtain ⟨n, hn⟩ := dCode_iff.1 hd
      refine ⟨n + 1, ?_⟩
      rw [runCode, hn]
      obtain ⟨x, e1, h1⟩ := r
      cases x with
      | exit j => exact absurd hd (hno _ _ _)
      | _ => rfl

theorem dCode_loop {c e h} : dCode P hk (.loop c) e h = match dCode P hk c e h with
    | some (.normal, e', h') => dCode P hk (.loop c) e' h'
    | r => r := by
  refine opt_ext fun r => ?_
  rw [dCode_iff]
  constructor
  · rintro ⟨n, hn⟩
    cases n with
    | zero => simp [runCode] at hn
    | succ n =>
      rw [runCode] at hn
      split at hn
      · rename_i e1 h1 h2
        rw [dCode_iff.2 ⟨n, h2⟩]; exact dCode_iff.2 ⟨n, hn⟩
      · rename_i hno
        rw [dCode_iff.2 ⟨n, hn⟩]
        obtain ⟨x, e1, h1⟩ := r
        cases x with
        | normal => exact absurd hn (hno _ _)
        | _ => rfl
  · intro hd
    split at hd
    · rename_i e1 h1 h2
      obtain ⟨n, hn⟩ := dCode_iff.1 h2
      obtain ⟨m, hm⟩ := dCode_iff.1 hd
      refine ⟨max n m + 1, ?_⟩
      rw [runCode, run_up (Nat.le_max_left n m) hn]
      exact run_up (Nat.le_max_right n m) hm
    · rename_i hno
      obtain ⟨n, hn⟩ := dCode_iff.1 hd
      refine ⟨n + 1, ?_⟩
      rw [runCode, hn]
      obtain ⟨x, e1, h1⟩ := r
      cases x with
      | normal => exact absurd hd (hno _ _)
      | _ => rfl

theorem den_hook {f args h r} (hh : hk f args h = some r) : den P hk f args h = some r := den_iff.2 ⟨1, by rw [runCall, hh]⟩

/-- a function's end -/
def fin (res : List (Nat × Option (Option Nat))) : Option (CX × Env × Heap) → Option (CV × Heap)
  | some (.exit _, _, _) | none => none
  | some (_, e', h') => ((res.mapM (resOf e' h')).bind resVal).map fun v => (v, h')

theorem den_of {f cf args h} (hh : hk f args h = none) (hcf : compF P f = some cf) (hn : args.length ≤ cf.np) : den P hk f args h = fin cf.res (dCode P hk cf.body (initEnv args) h) := by
  have hn' : ¬ cf.np < args.length := by omega
  refine opt_ext fun r => ?_
  rw [den_iff]
  constructor
  · rintro ⟨n, hn⟩
    cases n with
    | zero => simp [runCall] at hn
    | succ n =>
      rw [runCall, hh, hcf] at hn
      simp only [if_neg hn'] at hn
      split at hn
      · simp at hn
      · simp at hn
      · rename_i x e1 h1 hno h2
        rw [dCode_iff.2 ⟨n, h2⟩]
        cases x with
        | exit j => exact absurd rfl (hno j)
        | _ => exact hn
  · intro hd
    unfold fin at hd
    split at hd
    · simp at hd
    · simp at hd
    · rename_i x e1 h1 hno h2
      obtain ⟨n, hn⟩ := dCode_iff.1 h2
      refine ⟨n + 1, ?_⟩
      rw [runCall, hh, hcf]
      simp only [if_neg hn', hn]
      cases x with
      | exit j => exact absurd rfl (hno j)
      | _ => exact hd

/-- what the run says of the machine -/
theorem den_sound {G : Nat → Obj → Prop} (hH : HookOK G P hk) (hmix : P.follows .mixedOrders = true) {f args h v h'} (hd : den P hk f args h = some (v, h')) : CallOK G P f args h v h' := by
  obtain ⟨n, hn⟩ := den_iff.1 hd
  exact call_sound hH hmix n f args h v h' hn

end
end Go.Cn
