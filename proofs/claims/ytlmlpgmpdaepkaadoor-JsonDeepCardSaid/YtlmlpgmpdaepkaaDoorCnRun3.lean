/- Code and calls: the canonical run is sound. -/
import Derived.Test.YtlmlpgmpdaepkaaDoorCnDraw4
import Derived.Test.YtlmlpgmpdaepkaaDoorCnMono
import Derived.LoopN
set_option linter.unusedSimpArgs false
set_option linter.unusedVariables false
set_option linter.unusedSectionVars false
namespace Go.Cn

section
variable {G : Nat → Obj → Prop} {P : Program} {hk : Hook} {N : Nat}

def cxOf : CX → Exit
  | .normal => .normal
  | .exit id => .exit id
  | .ret => .ret

theorem code_sound (hl : HookLen hk) (hmix : P.follows .mixedOrders = true) : ∀ (n : Nat), SoundBelow G P hk n → ∀ (c : Code) (cc : CC) (e e' : Env) (h h' : Heap) (x : CX) (μ : Mp) (K : View) (a : Act) (w : World) (Q : Exit → Act → World → Prop),
    compCode P N c = some cc → runCode P hk n cc e h = some (x, e', h') → EnvR μ N e a → SimG G μ K w → Agree K h All → Fresh K h h' →
    (∀ a' w' μ', EnvR μ' N e' a' → Step μ K w μ' (updK K h h') w' → SimV μ' (updK K h h') w' → Q (cxOf x) a' w') → c.wp P Q a w := by
  intro n
  induction n with
  | zero => intro _ c cc e e' h h' x μ K a w Q _ hr; simp [runCode] at hr
  | succ n ih =>
    intro hS c cc e e' h h' x μ K a w Q hc hr hE hSim hA hF hQ
    have hS' : SoundBelow G P hk n := fun m hm => hS m (by omega)
    obtain ⟨_, _, len3, _⟩ := run_len (P := P) hl n
    have same : ∀ {Q' : Exit}, x = (cxOf x |> fun _ => x) → e' = e → h' = h → Q' = cxOf x → Q Q' a w := by
      intro Q' _ h1 h2 h3
      subst h1 h2 h3
      exact hQ a w μ hE (by rw [updK_self]; exact Step.refl _ _ _) (by rw [updK_self]; exact hSim.toSimV)
    cases c with
    | skip =>
      simp [compCode] at hc; subst hc
      simp [runCode] at hr
      obtain ⟨rfl, rfl, rfl⟩ := hr
      exact wp_skip (same rfl rfl rfl rfl)
    | exit id =>
      simp [compCode] at hc; subst hc
      simp [runCode] at hr
      obtain ⟨rfl, rfl, rfl⟩ := hr
      exact wp_exit (same rfl rfl rfl rfl)
    | ret =>
      simp [compCode] at hc; subst hc
      simp [runCode] at hr
      obtain ⟨rfl, rfl, rfl⟩ := hr
      exact wp_ret (same rfl rfl rfl rfl)
    | region id ops draw =>
      simp only [compCode, Option.map_eq_some_iff] at hc
      obtain ⟨cos, hcos, rfl⟩ := hc
      simp only [runCode, Option.map_eq_some_iff, Prod.mk.injEq] at hr
      obtain ⟨⟨e1, h1⟩, hr, rfl, rfl, rfl⟩ := hr
      exact region_sound hl hmix hcos hS' hr hE hSim hA hF hQ
    | seq y z =>
      simp only [compCode] at hc
      split at hc
      · rename_i cy cz hy hz
        simp at hc; subst hc
        simp only [runCode] at hr
        refine wp_seq ?_
        split at hr
        · rename_i e1 h1 hr1
          have l1 := len3 _ _ _ _ _ _ hr1
          have l2 := len3 _ _ _ _ _ _ hr
          refine ih hS' y cy e e1 h h1 .normal μ K a w _ hy hr1 hE hSim hA (fresh_left hF l2) fun a1 w1 μ1 p1 p2 p3 => ?_
          refine ih hS' z cz e1 e' h1 h' x μ1 (updK K h h1) a1 w1 Q hz hr p1 (hSim.step p2 p3) (agree_upd hA) (fresh_right hF l1) fun a' w' μ' q1 q2 q3 => ?_
          rw [updK_trans hA l1 l2] at q2 q3
          exact hQ a' w' μ' q1 (p2.trans q2) q3
        · rename_i hno
          refine ih hS' y cy e e' h h' x μ K a w _ hy hr hE hSim hA hF fun a' w' μ' q1 q2 q3 => ?_
          have := hQ a' w' μ' q1 q2 q3
          cases x with
          | normal => exact absurd hr (hno _ _)
          | exit => exact this
          | ret => exact this
      · simp at hc
    | cond t y z =>
      simp only [compCode] at hc
      split at hc
      · rename_i ct cy cz ht hy hz
        simp at hc; subst hc
        simp only [runCode] at hr
        split at hr
        · rename_i b hb
          have hv := opd_env hE ht
          rw [hb] at hv
          have hv : a.eval t = .bool b := hv
          refine wp_cond hv ?_
          cases b with
          | true => exact ih hS' y cy e e' h h' x μ K a w Q hy hr hE hSim hA hF hQ
          | false => exact ih hS' z cz e e' h h' x μ K a w Q hz hr hE hSim hA hF hQ
        · simp at hr
      · simp at hc
    | block id y =>
      simp only [compCode, Option.map_eq_some_iff] at hc
      obtain ⟨cy, hy, rfl⟩ := hc
      simp only [runCode] at hr
      refine wp_block ?_
      split at hr
      · rename_i j e1 h1 hr1
        split at hr
        · rename_i hj
          simp at hr
          obtain ⟨rfl, rfl, rfl⟩ := hr
          refine ih hS' y cy e e1 h h1 (.exit j) μ K a w _ hy hr1 hE hSim hA hF fun a' w' μ' q1 q2 q3 => ?_
          simp only [cxOf, Exit.inBlock, hj, if_true]
          exact hQ a' w' μ' q1 q2 q3
        · rename_i hj
          simp at hr
          obtain ⟨rfl, rfl, rfl⟩ := hr
          refine ih hS' y cy e e1 h h1 (.exit j) μ K a w _ hy hr1 hE hSim hA hF fun a' w' μ' q1 q2 q3 => ?_
          simp only [cxOf, Exit.inBlock, hj, if_false]
          exact hQ a' w' μ' q1 q2 q3
      · rename_i hno
        refine ih hS' y cy e e' h h' x μ K a w _ hy hr hE hSim hA hF fun a' w' μ' q1 q2 q3 => ?_
        have := hQ a' w' μ' q1 q2 q3
        cases x with
        | normal => exact this
        | exit j => exact absurd hr (hno _ _ _)
        | ret => exact this
    | loop y =>
      simp only [compCode, Option.map_eq_some_iff] at hc
      obtain ⟨cy, hy, rfl⟩ := hc
      refine wp_loop_rounds (n + 1) ?_
      have key : ∀ m, m ≤ n + 1 → ∀ (e e' : Env) (h h' : Heap) (x : CX) (μ : Mp) (K : View) (a : Act) (w : World) (Q : Exit → Act → World → Prop), runCode P hk m (.loop cy) e h = some (x, e', h') → EnvR μ N e a → SimG G μ K w → Agree K h All → Fresh K h h' →
          (∀ a' w' μ', EnvR μ' N e' a' → Step μ K w μ' (updK K h h') w' → SimV μ' (updK K h h') w' → Q (cxOf x) a' w') → Code.rounds P y Q m a w := by
        intro m
        induction m with
        | zero => intro _ e e' h h' x μ K a w Q hr; simp [runCode] at hr
        | succ m ihm =>
          intro hmn e e' h h' x μ K a w Q hr hE hSim hA hF hQ
          obtain ⟨_, _, lenm, _⟩ := run_len (P := P) hl m
          simp only [runCode] at hr
          rw [rounds_succ]
          have bump : ∀ (m : Nat) (c : Code) (cc : CC) (e e' : Env) (h h' : Heap) (x : CX), m ≤ n → compCode P N c = some cc → runCode P hk m cc e h = some (x, e', h') → ∃ _ : True, ∀ (μ : Mp) (K : View) (a : Act) (w : World) (Q : Exit → Act → World → Prop), EnvR μ N e a → SimG G μ K w → Agree K h All → Fresh K h h' →
              (∀ a' w' μ', EnvR μ' N e' a' → Step μ K w μ' (updK K h h') w' → SimV μ' (updK K h h') w' → Q (cxOf x) a' w') → c.wp P Q a w := by
            intro m c cc e e' h h' x hm hc hr
            exact ⟨trivial, fun μ K a w Q => ih hS' c cc e e' h h' x μ K a w Q hc (run_up hm hr)⟩
          split at hr
          · rename_i e1 h1 hr1
            have l1 := lenm _ _ _ _ _ _ hr1
            have l2 := lenm _ _ _ _ _ _ hr
            obtain ⟨_, hb⟩ := bump m y cy e e1 h h1 .normal (by omega) hy hr1
            refine hb μ K a w _ hE hSim hA (fresh_left hF l2) fun a1 w1 μ1 p1 p2 p3 => ?_
            refine ihm (by omega) e1 e' h1 h' x μ1 (updK K h h1) a1 w1 Q hr p1 (hSim.step p2 p3) (agree_upd hA) (fresh_right hF l1) fun a' w' μ' q1 q2 q3 => ?_
            rw [updK_trans hA l1 l2] at q2 q3
            exact hQ a' w' μ' q1 (p2.trans q2) q3
          · rename_i hno
            obtain ⟨_, hb⟩ := bump m y cy e e' h h' x (by omega) hy hr
            refine hb μ K a w _ hE hSim hA hF fun a' w' μ' q1 q2 q3 => ?_
            have := hQ a' w' μ' q1 q2 q3
            cases x with
            | normal => exact absurd hr (hno _ _)
            | exit => exact this
            | ret => exact this
      exact key (n + 1) (Nat.le_refl _) e e' h h' x μ K a w Q hr hE hSim hA hF hQ
    | _ => simp [compCode] at hc

/-- one result as it is read -/
def resRun (tmps : Array Value) : ResultVar → Sem Value
  | .tmp t => pure (tmps.getD t undef)
  | .cell a t => do loadVar t (← asAddr (tmps.getD a undef))

theorem res_one {μ : Mp} {K : View} {w : World} {a : Act} {e : Env} {h : Heap} {rv : ResultVar} {c : Nat × Option (Option Nat)} {v : CV} (hE : EnvR μ N e a) (hSim : SimV μ K w) (hA : Agree K h All) (hc : compRes P rv = some c) (hv : resOf e h c = some v) :
    ∃ u, VR μ v u ∧ (resRun a.tmps rv).run P w = .ok u w := by
  cases rv with
  | tmp t =>
    simp [compRes] at hc; subst hc
    simp [resOf] at hv; subst hv
    exact ⟨_, hE.tmp t, by simp [resRun]⟩
  | cell b t =>
    have hx := hE.tmp b
    simp only [compRes] at hc
    split at hc
    · rename_i n hg hn
      simp at hc; subst hc
      simp only [resOf] at hv
      split at hv
      · rename_i bb off hb
        rw [hb] at hx
        simp only [Option.map_eq_some_iff] at hv
        obtain ⟨cs, hl, rfl⟩ := hv
        obtain ⟨pl, hm, hxe⟩ := vr_ptr hx
        obtain ⟨vs, h1, h2, h3⟩ := ld_at hSim (fun blk p q => hA bb blk trivial p q) hm hl
        obtain ⟨d, hd, hrow⟩ := isRow_of hg
        refine ⟨.agg vs.toArray, ⟨vs, rfl, h1⟩, ?_⟩
        have := run_loadVar_mid (P := P) w pl.r (pl.δ + off) t vs d h3 hd hrow (by rw [h2]; exact hn)
        simp [resRun, hxe, asAddr, this]
      · simp at hv
    · rename_i hg
      simp at hc; subst hc
      simp only [resOf] at hv
      split at hv
      · rename_i bb off hb
        rw [hb] at hx
        split at hv
        · rename_i c1 hl
          simp at hv; subst hv
          obtain ⟨pl, hm, hxe⟩ := vr_ptr hx
          obtain ⟨vs, h1, h2, h3⟩ := ld_at hSim (fun blk p q => hA bb blk trivial p q) hm hl
          cases vs with
          | nil => simp at h2
          | cons u us =>
            refine ⟨u, VR.of_c h1.1, ?_⟩
            have hc := h3 0 u rfl
            simp only [Nat.add_zero] at hc
            simp [resRun, hxe, asAddr, loadVar, isAgg_run hg, hc]
        · simp at hv
      · simp at hv
    · simp at hc

inductive VRl (μ : Mp) : List CV → List Value → Prop
  | nil : VRl μ [] []
  | cons {c cs v vs} : VR μ c v → VRl μ cs vs → VRl μ (c :: cs) (v :: vs)

theorem res_all {μ : Mp} {K : View} {w : World} {a : Act} {e : Env} {h : Heap} (hE : EnvR μ N e a) (hSim : SimV μ K w) (hA : Agree K h All) : ∀ (rs : List ResultVar) (cs : List (Nat × Option (Option Nat))) (vs : List CV), rs.mapM (compRes P) = some cs → cs.mapM (resOf e h) = some vs →
    ∃ us, VRl μ vs us ∧ (rs.mapM (resRun a.tmps)).run P w = .ok us w := by
  intro rs
  induction rs with
  | nil =>
    intro cs vs hc hv
    simp at hc; subst hc
    simp at hv; subst hv
    exact ⟨[], .nil, by simp⟩
  | cons r rs ih =>
    intro cs vs hc hv
    rw [List.mapM_cons] at hc
    simp only [Option.bind_eq_bind, Option.bind_eq_some_iff, Option.pure_def, Option.some.injEq] at hc
    obtain ⟨c, hc1, cs', hc2, rfl⟩ := hc
    rw [List.mapM_cons] at hv
    simp only [Option.bind_eq_bind, Option.bind_eq_some_iff, Option.pure_def, Option.some.injEq] at hv
    obtain ⟨v, hv1, vs', hv2, rfl⟩ := hv
    obtain ⟨u, u1, u2⟩ := res_one hE hSim hA hc1 hv1
    obtain ⟨us, us1, us2⟩ := ih cs' vs' hc2 hv2
    exact ⟨u :: us, .cons u1 us1, by rw [List.mapM_cons]; simp [u2, us2]⟩

theorem vla_of {μ : Mp} {vs : List CV} {us : List Value} (h : VRl μ vs us) (ho : vs.all CV.ok = true) : VLa μ vs us := by
  induction h with
  | nil => trivial
  | cons h1 h2 ih =>
    rename_i c cs v vs
    simp only [List.all_cons, Bool.and_eq_true] at ho
    refine ⟨?_, ih ho.2⟩
    cases c <;> first | exact h1 | (simp [CV.ok] at ho)

theorem results_run {μ : Mp} {K : View} {w : World} {a : Act} {e : Env} {h : Heap} {fn : Func} {cs : List (Nat × Option (Option Nat))} {v : CV} (hE : EnvR μ N e a) (hSim : SimV μ K w) (hA : Agree K h All) (hc : fn.results.toList.mapM (compRes P) = some cs)
    (hv : (cs.mapM (resOf e h)).bind resVal = some v) : ∃ u, VR μ v u ∧ (results fn a.tmps).run P w = .ok u w := by
  simp only [Option.bind_eq_some_iff] at hv
  obtain ⟨vs, hv1, hv2⟩ := hv
  obtain ⟨us, u1, u2⟩ := res_all hE hSim hA _ cs vs hc hv1
  have hm : (fn.results.mapM (resRun a.tmps)).run P w = .ok us.toArray w := by
    rw [Array.mapM_eq_mapM_toList]
    simp [u2]
  have hres : (results fn a.tmps).run P w = .ok (if h : us.toArray.size = 1 then us.toArray[0] else .tuple us.toArray) w := by
    have hres : results fn a.tmps = (fn.results.mapM (resRun a.tmps) >>= fun vs => pure (if h : vs.size = 1 then vs[0] else .tuple vs)) := by
      unfold results
      rfl
    rw [hres]
    simp [hm]
  unfold resVal at hv2
  split at hv2
  · rename_i c
    simp at hv2; subst hv2
    cases u1 with
    | cons h1 h2 =>
      cases h2
      exact ⟨_, h1, by rw [hres]; simp⟩
  · rename_i hne
    split at hv2
    · rename_i hok
      simp at hv2; subst hv2
      have hl := (vla_of u1 hok).length
      refine ⟨.tuple us.toArray, ⟨us, rfl, vla_of u1 hok⟩, ?_⟩
      rw [hres, dif_neg]
      intro h1
      simp at h1
      cases vs with
      | nil => simp at hl; simp [← hl] at h1
      | cons c vs =>
        cases vs with
        | nil => exact hne c rfl
        | cons d vs => simp at hl; omega
    · simp at hv2

theorem env_init {μ : Mp} {args : List CV} {args' : Array Value} (hv : VLr μ args args') (hn : args.length ≤ N) : EnvR μ N (initEnv args) { tmps := args' ++ Array.replicate (N - args'.size) undef, defers := [] } := by
  obtain ⟨l1, l2⟩ := hv
  refine ⟨by simp; omega, rfl, fun t => ?_⟩
  simp only [initEnv]
  cases hc : args[t]? with
  | some c =>
    obtain ⟨v, hv, hr⟩ := l2 t c hc
    have ht : t < args'.size := by
      rcases Array.getElem?_eq_some_iff.1 hv with ⟨h, _⟩; exact h
    simp only [Option.getD_some, Array.getD_eq_getD_getElem?]
    rw [Array.getElem?_append_left ht, hv]
    exact hr
  | none =>
    have ht : args.length ≤ t := by simpa using hc
    simp only [Option.getD_none, Array.getD_eq_getD_getElem?]
    rw [Array.getElem?_append_right (by omega), Array.getElem?_replicate]
    split <;> rfl

theorem call_sound (hH : HookOK G P hk) (hmix : P.follows .mixedOrders = true) : ∀ n, CallSound G P hk n := by
  intro n
  induction n using Nat.strongRecOn with
  | _ n ih =>
    intro f args h v h' hr
    cases n with
    | zero => simp [runCall] at hr
    | succ n =>
      rw [runCall] at hr
      split at hr
      · rename_i q hq
        simp at hr; subst hr
        exact hH.2 f args h v h' hq
      · split at hr
        · simp at hr
        · rename_i cf hcf
          split at hr
          · simp at hr
          · rename_i hnp
            unfold compF at hcf
            split at hcf
            · rename_i fn hfn
              split at hcf
              · simp at hcf
              · rename_i hname
                split at hcf
                · rename_i c hbody
                  split at hcf
                  · rename_i body res hcode hres
                    simp at hcf; subst hcf
                    refine ⟨⟨fn, c, hfn, by simpa using hname, hbody⟩, fun μ K w args' hargs hSim hA hF => ?_⟩
                    refine calls_of_wp hfn hbody ?_
                    have fin : ∀ (x : CX) (e' : Env) (h1 : Heap), (x = .normal ∨ x = .ret) → runCode P hk n body (initEnv args) h = some (x, e', h1) → (res.mapM (resOf e' h1)).bind resVal = some v → h1 = h' →
                        c.wp P (bodyPost P fn fun e w' => ∃ u, e = .returned u ∧ After μ K w h v h' u w') { tmps := args' ++ Array.replicate (fn.ntmps - args'.size) undef, defers := [] } w := by
                      rintro x e' h1 hx hrun hv rfl
                      refine code_sound hH.1 hmix n (fun m hm => ih m (by omega)) c body _ e' h h1 x μ K _ w _ hcode hrun (env_init hargs (by simpa using hnp)) hSim hA hF fun a' w' μ' p1 p2 p3 => ?_
                      obtain ⟨u, u1, u2⟩ := results_run p1 p3 (agree_upd hA) hres hv
                      have hend : a'.defers = [] ∧ ∃ v', (results fn a'.tmps).run P w' = .ok v' w' ∧ ∃ u, Ending.returned v' = .returned u ∧ After μ K w h v h1 u w' := ⟨p1.defers, u, u2, u, rfl, μ', u1, p2, p3⟩
                      rcases hx with rfl | rfl
                      · exact hend
                      · exact hend
                    split at hr
                    · simp at hr
                    · simp at hr
                    · rename_i x e' h1 hno hrun
                      simp only [Option.map_eq_some_iff, Prod.mk.injEq] at hr
                      obtain ⟨v', hv', rfl, rfl⟩ := hr
                      refine fin x e' h1 ?_ hrun hv' rfl
                      cases x with
                      | normal => exact .inl rfl
                      | ret => exact .inr rfl
                      | exit j => exact absurd rfl (hno j)
                  · simp at hcf
                · simp at hcf
            · simp at hcf

end
end Go.Cn
