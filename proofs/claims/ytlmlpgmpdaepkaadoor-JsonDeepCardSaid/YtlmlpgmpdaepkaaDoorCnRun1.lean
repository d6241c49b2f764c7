/- Runs: lengths, views in a row, environments. -/
import Derived.Test.YtlmlpgmpdaepkaaDoorCnSim11
set_option linter.unusedSimpArgs false
set_option linter.unusedVariables false
set_option linter.unusedSectionVars false
namespace Go.Cn

/-! ### no run takes a block away -/

theorem stc_len {h h' : Heap} {b off : Nat} {cs : List CV} (hs : h.stc b off cs = some h') : h'.length = h.length := by
  unfold Heap.stc at hs
  split at hs
  · split at hs
    · simp at hs; subst hs; simp
    · simp at hs
  · simp at hs

theorem kill_len {h h' : Heap} {b : Nat} (hs : h.kill b = some h') : h'.length = h.length := by
  unfold Heap.kill at hs
  split at hs
  · split at hs
    · simp at hs; subst hs; simp
    · simp at hs
  · simp at hs

theorem append_len {h h' : Heap} {t : TypeId} {k by' : Nat} {st : Bool} {s x v : CV} (ha : append h t k by' st s x = some (v, h')) : h.length ≤ h'.length := by
  unfold append at ha
  split at ha
  · simp at ha
  · split at ha
    · split at ha
      · simp at ha; rw [ha.2]; omega
      · split at ha
        · simp at ha; rw [← ha.2]; simp
        · simp at ha
    · split at ha
      · simp at ha
      · split at ha
        · simp at ha; rw [ha.2]; omega
        · split at ha
          · simp only [Option.map_eq_some_iff, Prod.mk.injEq] at ha
            obtain ⟨h1, hs, _, rfl⟩ := ha
            rw [stc_len hs]; omega
          · split at ha
            · split at ha
              · simp at ha
              · split at ha
                · simp at ha; rw [← ha.2]; simp
                · simp only [Option.map_eq_some_iff, Prod.mk.injEq] at ha
                  obtain ⟨h1, hs, _, rfl⟩ := ha
                  simp [kill_len hs]
            · simp at ha
    · simp at ha

theorem exec_len {e : Env} {h h' : Heap} {c : COp} {v : CV} (hx : exec e h c = some (v, h')) : h.length ≤ h'.length := by
  cases c <;> simp only [exec] at hx
  case app => exact append_len hx
  case store =>
    split at hx
    · split at hx
      · simp only [Option.map_eq_some_iff, Prod.mk.injEq] at hx
        obtain ⟨h1, hs, _, rfl⟩ := hx
        rw [stc_len hs]; omega
      · simp at hx
    · simp at hx
  all_goals
    (try simp only [Option.map_eq_some_iff, Prod.mk.injEq] at hx)
    repeat' split at hx
    all_goals first
      | (simp at hx; done)
      | (simp at hx; rw [← hx.2]; simp; done)
      | (simp at hx; rw [hx.2]; exact Nat.le_refl _)
      | (obtain ⟨_, _, _, rfl⟩ := hx; exact Nat.le_refl _)
      | (simp only [Option.map_eq_some_iff, Prod.mk.injEq] at hx; obtain ⟨_, _, _, rfl⟩ := hx; exact Nat.le_refl _)

def HookLen (hk : Hook) : Prop := ∀ f args h v h', hk f args h = some (v, h') → h.length ≤ h'.length

theorem run_len {P : Program} {hk : Hook} (hl : HookLen hk) : ∀ n,
    (∀ l e h e' h', runOps P hk n l e h = some (e', h') → h.length ≤ h'.length) ∧
    (∀ c e h v h', runOp P hk n c e h = some (v, h') → h.length ≤ h'.length) ∧
    (∀ c e h x e' h', runCode P hk n c e h = some (x, e', h') → h.length ≤ h'.length) ∧
    (∀ f args h v h', runCall P hk n f args h = some (v, h') → h.length ≤ h'.length) := by
  intro n
  induction n with
  | zero =>
    refine ⟨fun l e h e' h' hr => ?_, fun c e h v h' hr => ?_, fun c e h x e' h' hr => ?_, fun f args h v h' hr => ?_⟩
    · simp [runOps] at hr
    · simp [runOp] at hr
    · simp [runCode] at hr
    · simp [runCall] at hr
  | succ n ih =>
    obtain ⟨i1, i2, i3, i4⟩ := ih
    refine ⟨fun l e h e' h' hr => ?_, fun c e h v h' hr => ?_, fun c e h x e' h' hr => ?_, fun f args h v h' hr => ?_⟩
    · cases l with
      | nil => simp [runOps] at hr; rw [hr.2]; exact Nat.le_refl _
      | cons o r =>
        simp only [runOps] at hr
        split at hr
        · split at hr
          · rename_i v h1 h2
            split at hr
            · simp at hr
            · exact Nat.le_trans (i2 _ _ _ _ _ h2) (i1 _ _ _ _ _ hr)
          · simp at hr
        · exact i1 _ _ _ _ _ hr
    · cases c
      case call f args => simp only [runOp] at hr; exact i4 _ _ _ _ _ hr
      case dcall g args =>
        simp only [runOp] at hr
        split at hr
        · exact i4 _ _ _ _ _ hr
        · simp at hr
      all_goals (simp only [runOp] at hr; exact exec_len hr)
    · cases c
      case skip => simp [runCode] at hr; rw [hr.2.2]; exact Nat.le_refl _
      case exit => simp [runCode] at hr; rw [hr.2.2]; exact Nat.le_refl _
      case ret => simp [runCode] at hr; rw [hr.2.2]; exact Nat.le_refl _
      case ops l =>
        simp only [runCode, Option.map_eq_some_iff, Prod.mk.injEq] at hr
        obtain ⟨⟨e1, h1⟩, h2, _, _, rfl⟩ := hr
        exact i1 _ _ _ _ _ h2
      case seq a b =>
        simp only [runCode] at hr
        split at hr
        · rename_i e1 h1 h2
          exact Nat.le_trans (i3 _ _ _ _ _ _ h2) (i3 _ _ _ _ _ _ hr)
        · exact i3 _ _ _ _ _ _ hr
      case cond c a b =>
        simp only [runCode] at hr
        split at hr
        · exact i3 _ _ _ _ _ _ hr
        · simp at hr
      case block id c =>
        simp only [runCode] at hr
        split at hr
        · rename_i j e1 h1 h2
          split at hr
          · simp at hr; rw [← hr.2.2]; exact i3 _ _ _ _ _ _ h2
          · simp at hr; rw [← hr.2.2]; exact i3 _ _ _ _ _ _ h2
        · exact i3 _ _ _ _ _ _ hr
      case loop c =>
        simp only [runCode] at hr
        split at hr
        · rename_i e1 h1 h2
          exact Nat.le_trans (i3 _ _ _ _ _ _ h2) (i3 _ _ _ _ _ _ hr)
        · exact i3 _ _ _ _ _ _ hr
    · simp only [runCall] at hr
      split at hr
      · rename_i r hh
        simp at hr
        subst hr
        exact hl _ _ _ _ _ hh
      · split at hr
        · simp at hr
        · split at hr
          · simp at hr
          · split at hr
            · simp at hr
            · simp at hr
            · rename_i x e1 h1 _ h2
              simp only [Option.map_eq_some_iff, Prod.mk.injEq] at hr
              obtain ⟨_, _, _, rfl⟩ := hr
              exact i3 _ _ _ _ _ _ h2

/-! ### views in a row -/

def All : Nat → Prop := fun _ => True
def Fresh (K : View) (h h' : Heap) : Prop := ∀ b, h.length ≤ b → b < h'.length → K b = none

theorem updK_none {K : View} {h h' : Heap} {b : Nat} (hb : b < h.length) (hK : K b = none) : updK K h h' b = none := by
  unfold updK; rw [if_pos hb, if_pos (.inl hK), hK]
theorem updK_eq {K : View} {h h' : Heap} {b : Nat} (hb : b < h.length) (he : h'[b]? = h[b]?) : updK K h h' b = K b := by
  unfold updK; rw [if_pos hb, if_pos (.inr he)]
theorem updK_ch {K : View} {h h' : Heap} {b : Nat} (hb : b < h.length) (hK : K b ≠ none) (he : h'[b]? ≠ h[b]?) : updK K h h' b = h'[b]? := by
  unfold updK; rw [if_pos hb, if_neg (by simp [hK, he])]
theorem updK_new {K : View} {h h' : Heap} {b : Nat} (hb : ¬ b < h.length) (hb' : b < h'.length) : updK K h h' b = h'[b]? := by
  unfold updK; rw [if_neg hb, if_pos hb']
theorem updK_out {K : View} {h h' : Heap} {b : Nat} (hb : ¬ b < h.length) (hb' : ¬ b < h'.length) : updK K h h' b = K b := by
  unfold updK; rw [if_neg hb, if_neg hb']

/-- with the heap agreeing: what is there is what the heap says -/
theorem updK_there {K : View} {h h' : Heap} {b : Nat} {blk : Blk} (hA : Agree K h All) (hb : b < h.length) (hK : K b = some blk) : updK K h h' b = h'[b]? := by
  by_cases he : h'[b]? = h[b]?
  · rw [updK_eq hb he, he, hK, hA b blk trivial hb hK]
  · exact updK_ch hb (by rw [hK]; simp) he

theorem agree_upd {K : View} {h h1 : Heap} (hA : Agree K h All) : Agree (updK K h h1) h1 All := by
  intro b blk _ hb hK
  by_cases hlt : b < h.length
  · cases hq : K b with
    | none => rw [updK_none hlt hq] at hK; simp at hK
    | some blk0 => rw [updK_there hA hlt hq] at hK; exact hK
  · rw [updK_new hlt hb] at hK; exact hK

theorem updK_trans {K : View} {h h1 h2 : Heap} (hA : Agree K h All) (l1 : h.length ≤ h1.length) (l2 : h1.length ≤ h2.length) : updK (updK K h h1) h1 h2 = updK K h h2 := by
  funext b
  by_cases hb : b < h.length
  · have hb1 : b < h1.length := by omega
    cases hK : K b with
    | none => rw [updK_none hb hK, updK_none hb1 (updK_none hb hK)]
    | some blk =>
      obtain ⟨x1, e1⟩ : ∃ x, h1[b]? = some x := ⟨_, List.getElem?_eq_getElem hb1⟩
      rw [updK_there hA hb hK, updK_there (agree_upd hA) hb1 (by rw [updK_there hA hb hK]; exact e1)]
  · by_cases hb1 : b < h1.length
    · have hb2 : b < h2.length := by omega
      obtain ⟨x1, e1⟩ : ∃ x, h1[b]? = some x := ⟨_, List.getElem?_eq_getElem hb1⟩
      rw [updK_there (agree_upd hA) hb1 (by rw [updK_new hb hb1]; exact e1), updK_new hb hb2]
    · by_cases hb2 : b < h2.length
      · rw [updK_new hb1 hb2, updK_new hb hb2]
      · rw [updK_out hb1 hb2, updK_out hb hb1, updK_out hb hb2]

theorem fresh_left {K : View} {h h1 h2 : Heap} (hF : Fresh K h h2) (l2 : h1.length ≤ h2.length) : Fresh K h h1 := fun b h1' h2' => hF b h1' (by omega)

theorem fresh_right {K : View} {h h1 h2 : Heap} (hF : Fresh K h h2) (l1 : h.length ≤ h1.length) : Fresh (updK K h h1) h1 h2 := by
  intro b hb1 hb2
  unfold updK
  rw [if_neg (by omega), if_neg (by omega)]
  exact hF b (by omega) hb2

/-! ### environments -/

structure EnvR (μ : Mp) (N : Nat) (e : Env) (a : Act) : Prop where
  size : a.tmps.size = N
  defers : a.defers = []
  tmp : ∀ t, VR μ (e t) (a.tmps.getD t undef)

theorem EnvR.mono {μ μ' : Mp} {N : Nat} {e : Env} {a : Act} (hm : μ.le μ') (h : EnvR μ N e a) : EnvR μ' N e a := ⟨h.size, h.defers, fun t => (h.tmp t).mono hm⟩

theorem EnvR.put {μ : Mp} {N : Nat} {e : Env} {a : Act} {d : Option Nat} {v : CV} {u : Value} (h : EnvR μ N e a) (hd : dstOK N d = true) (hv : VR μ v u) : EnvR μ N (e.put d v) (a.put d u) := by
  cases d with
  | none => exact ⟨h.size, h.defers, fun t => by simpa [Env.put, Act.put] using h.tmp t⟩
  | some d =>
    simp only [dstOK, decide_eq_true_eq] at hd
    refine ⟨by simp [Act.put, h.size], h.defers, fun t => ?_⟩
    simp only [Env.put, Act.put, Option.some.injEq]
    by_cases e : d = t
    · subst e
      rw [if_pos rfl]
      simp [h.size, hd]
      exact hv
    · rw [if_neg e]
      have := h.tmp t
      simp only [Array.getD_eq_getD_getElem?] at this ⊢
      rw [Array.getElem?_setIfInBounds_ne e]
      exact this

theorem opsR_of_env {μ : Mp} {N : Nat} {e : Env} {a : Act} {o : Oper} (h : EnvR μ N e a) : OpsR μ e a o := by
  intro x _ x' hx'
  cases x with
  | tmp t => simp [opdOf] at hx'; subst hx'; exact h.tmp t
  | const v =>
    simp only [opdOf, Option.map_eq_some_iff] at hx'
    obtain ⟨c, hc, rfl⟩ := hx'
    exact vr_of_cvOf hc
  | global g => simp [opdOf] at hx'
  | func f =>
    simp [opdOf] at hx'
    subst hx'
    exact ⟨#[], rfl, rfl, fun i c hc => by simp at hc⟩

theorem opd_env {μ : Mp} {N : Nat} {e : Env} {a : Act} (h : EnvR μ N e a) {x : Operand} {x' : Opd} (hx' : opdOf x = some x') : VR μ (x'.ev e) (a.eval x) := by
  have := opsR_of_env (o := { dst := none, op := .move x, type := 0, pos := "", after := #[], guard := none }) h
  exact this x (by simp [Op.operands]) x' hx'

theorem vr_bool {μ : Mp} {c : CV} {b : Bool} (h : VR μ c (.bool b)) : c = .bool b := by
  cases c <;> simp [VR, VRa, VRc, undef] at h
  rw [h]

def isB (want : Bool) : CV → Bool
  | .bool b' => b' == want
  | _ => false

def isBv (want : Bool) : Value → Bool
  | .bool b' => b' == want
  | _ => false

theorem isB_eq {μ : Mp} {c : CV} {u : Value} {want : Bool} (h : VR μ c u) : isB want c = isBv want u := by
  cases u with
  | bool b => rw [vr_bool h]; rfl
  | _ =>
    cases c with
    | bool b => simp [VR, VRa, VRc] at h
    | _ => rfl

theorem wanted_eq {μ : Mp} {N : Nat} {e : Env} {a : Act} {ops : Array Oper} {o : Oper} {g : Option (Nat × Bool)} (h : EnvR μ N e a) (hg : guardOf ops o = some g) :
    Region.wanted o (yielded ops a.tmps) = wantedC e g := by
  unfold guardOf at hg
  split at hg
  · rename_i hn
    simp at hg; subst hg
    simp [Region.wanted, hn, wantedC]
  · rename_i j want hn
    split at hg
    · rename_i t ht
      simp at hg; subst hg
      have hr := isB_eq (want := want) (h.tmp t)
      have h1 : wantedC e (some (t, want)) = isB want (e t) := by
        show (match e t with | .bool b' => b' == want | _ => false) = isB want (e t)
        generalize e t = c
        cases c <;> rfl
      rw [h1, hr]
      simp only [Region.wanted, hn, yielded, ht, Option.bind_some, Array.getD_eq_getD_getElem?]
      cases hq : a.tmps[t]? with
      | none => simp [isBv, undef]
      | some u => cases u <;> simp [isBv]
    · simp at hg

end Go.Cn
