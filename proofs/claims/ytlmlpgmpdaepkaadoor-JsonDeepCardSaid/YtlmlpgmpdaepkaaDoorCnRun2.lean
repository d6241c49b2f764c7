/- Calls within operations; operations in the order of the text. -/
import Derived.Test.YtlmlpgmpdaepkaaDoorCnRun1
set_option linter.unusedSimpArgs false
set_option linter.unusedVariables false
set_option linter.unusedSectionVars false
namespace Go.Cn

def VLr (μ : Mp) (cs : List CV) (vs : Array Value) : Prop := cs.length = vs.size ∧ ∀ (i : Nat) c, cs[i]? = some c → ∃ v, vs[i]? = some v ∧ VR μ c v

def Enters (P : Program) (f : FuncId) : Prop := ∃ fn c, P.funcs[f]? = some fn ∧ (fn.name == "runtime.NumGoroutine") = false ∧ fn.body = some c

/-- what a step comes to -/
def After (μ : Mp) (K : View) (w : World) (h : Heap) (v : CV) (h' : Heap) (u : Value) (w' : World) : Prop :=
  ∃ μ', VR μ' v u ∧ Step μ K w μ' (updK K h h') w' ∧ SimV μ' (updK K h h') w'

/-- rows that hold what they held when the program began: package-level variables that none writes -/
def Held (G : Nat → Obj → Prop) (μ : Mp) (K : View) (w : World) : Prop :=
  (∀ g o, G g o → w.heap[g]? = some o) ∧ ∀ b blk pl g o, K b = some blk → blk.wr → μ b = some pl → G g o → pl.r ≠ g

theorem Held.step {G : Nat → Obj → Prop} {μ μ' : Mp} {K K' : View} {w w' : World} (h : Held G μ K w) (k : Step μ K w μ' K' w') : Held G μ' K' w' := by
  have hlt : ∀ g o, G g o → g < w.heap.size := fun g o hg => by
    rcases Array.getElem?_eq_some_iff.1 (h.1 g o hg) with ⟨hlt, _⟩; exact hlt
  refine ⟨fun g o hg => ?_, fun b blk pl g o hK hw hm hg he => ?_⟩
  · rw [k.keep g (hlt g o hg) fun b blk pl hK hw hm => h.2 b blk pl g o hK hw hm hg]
    exact h.1 g o hg
  · rcases k.own b blk pl hK hw hm with ho | ⟨b0, blk0, pl0, h0, hw0, hm0, he0⟩
    · have := hlt g o hg; omega
    · exact h.2 b0 blk0 pl0 g o h0 hw0 hm0 hg (he0.trans he)

structure SimG (G : Nat → Obj → Prop) (μ : Mp) (K : View) (w : World) : Prop extends SimV μ K w where
  held : Held G μ K w

theorem SimG.step {G : Nat → Obj → Prop} {μ μ' : Mp} {K K' : View} {w w' : World} (h : SimG G μ K w) (k : Step μ K w μ' K' w') (hs : SimV μ' K' w') : SimG G μ' K' w' := ⟨hs, h.held.step k⟩

def CallOK (G : Nat → Obj → Prop) (P : Program) (f : FuncId) (args : List CV) (h : Heap) (v : CV) (h' : Heap) : Prop :=
  Enters P f ∧ ∀ μ K w args', VLr μ args args' → SimG G μ K w → Agree K h All → Fresh K h h' →
    Calls P f args' w fun e w' => ∃ u, e = .returned u ∧ After μ K w h v h' u w'

def HookOK (G : Nat → Obj → Prop) (P : Program) (hk : Hook) : Prop := HookLen hk ∧ ∀ f args h v h', hk f args h = some (v, h') → CallOK G P f args h v h'

def CallSound (G : Nat → Obj → Prop) (P : Program) (hk : Hook) (n : Nat) : Prop := ∀ f args h v h', runCall P hk n f args h = some (v, h') → CallOK G P f args h v h'

section
variable {G : Nat → Obj → Prop} {P : Program} {a : Act} {μ : Mp} {K : View} {w : World} {e : Env} {h h' : Heap} {v : CV}

/-- what an operation needs of the view -/
def Needs (e : Env) (c : COp) : Nat → Prop := if c.cls = .call then All else touched e c

theorem vlr_of_mapM {args : List Operand} {args' : List Opd} (hm : args.mapM opdOf = some args') (hR : ∀ x ∈ args, ∀ x', opdOf x = some x' → VR μ (x'.ev e) (a.eval x)) :
    VLr μ (args'.map (Opd.ev e)) (args.map a.eval).toArray := by
  induction args generalizing args' with
  | nil => simp at hm; subst hm; exact ⟨rfl, fun i c hc => by simp at hc⟩
  | cons x args ih =>
    rw [List.mapM_cons] at hm
    simp only [Option.bind_eq_bind, Option.bind_eq_some_iff, Option.pure_def, Option.some.injEq] at hm
    obtain ⟨x', hx', l', hl', rfl⟩ := hm
    obtain ⟨i1, i2⟩ := ih hl' (fun y hy => hR y (by simp [hy]))
    refine ⟨by simpa using i1, fun i c hc => ?_⟩
    cases i with
    | zero => simp at hc; subst hc; exact ⟨a.eval x, by simp, hR x (by simp) x' hx'⟩
    | succ i => simp only [List.map_cons, List.getElem?_cons_succ] at hc; simpa using i2 i c hc

theorem callFunc_run {f : FuncId} {args : Array Value} (hE : Enters P f) (w : World) : (callFunc f args).run P w = .ok (.enter f args) w := by
  obtain ⟨fn, c, h1, h2, h3⟩ := hE
  have h2' : ¬ fn.name = "runtime.NumGoroutine" := by simpa using h2
  simp [callFunc, h1, h2', h3]

/-- one operation, a call or not -/
theorem op_step {hk : Hook} {n : Nat} (hS : CallSound G P hk n) {o : Oper} {c : COp} (hc : compOp P o = some c) (hv : runOp P hk (n + 1) c e h = some (v, h')) (hR : OpsR μ e a o) (hSim : SimG G μ K w) (hA : Agree K h (Needs e c))
    (hF : Fresh K h h') {next : Act → World → Prop} {Q : Exit → Act → World → Prop} (hnext : ∀ u w', After μ K w h v h' u w' → next (a.put o.dst u) w') : o.wp P a w next Q := by
  by_cases hcall : c.cls = .call
  · have hA : Agree K h All := by simpa [Needs, hcall] using hA
    have fin : ∀ f args args', CallOK G P f args h v h' → VLr μ args args' → (execOp a.eval o).run P w = .ok (.enter f args') w → o.wp P a w next Q := by
      intro f args args' hok hl hrun
      unfold Oper.wp
      rw [hrun, Oper.upon_enter]
      refine (hok.2 μ K w args' hl hSim hA hF).mono fun en w' hh => ?_
      obtain ⟨u, rfl, haf⟩ := hh
      exact hnext u w' haf
    replace hc := comp_cases hc
    rcases hc with hc | rfl
    case inr => simp [COp.cls] at hcall
    obtain ⟨dst, op, type, pos, after, guard⟩ := o
    cases op <;> simp only [compOp0] at hc
    case call cl =>
      have hex : execOp a.eval { dst := dst, op := Op.call cl, type := type, pos := pos, after := after, guard := guard } = (do let d ← resolve a.eval cl type; invoke d.target d.args) := rfl
      split at hc
      · simp at hc
      · rename_i args hargs
        have hargsR : VLr μ (args.map (Opd.ev e)) (cl.args.map a.eval) := by
          have := vlr_of_mapM (a := a) hargs (fun x hx => hR x (by simp only [Op.operands, Call.operands]; simpa using .inr (by simpa using hx)))
          have e1 : (cl.args.toList.map a.eval).toArray = cl.args.map a.eval := by apply Array.ext'; simp
          rwa [e1] at this
        split at hc
        · rename_i b hb
          exfalso
          by_cases hp : c.cls = .pure
          · rw [hp] at hcall; simp at hcall
          · obtain ⟨_, _, _, _, _, _, _, _, rfl⟩ := compBuiltin_app hc hp
            simp [COp.cls] at hcall
        · rename_i f hf
          simp at hc; subst hc
          simp only [runOp] at hv
          have hok := hS _ _ _ _ _ hv
          refine fin f _ _ hok hargsR ?_
          rw [hex]
          simp only [resolve, hf, Act.eval, Deferred.ofValue, pure_bind, invoke, Array.empty_append, Array.append_empty]
          exact callFunc_run hok.1 w
        · rename_i g hneg hg
          simp only [Option.map_eq_some_iff] at hc
          obtain ⟨g', hg', rfl⟩ := hc
          simp only [runOp] at hv
          split at hv
          · rename_i f caps hgf
            have hok := hS _ _ _ _ _ hv
            have hgv := hR g (by simp [Op.operands, Call.operands, hg]) g' hg'
            rw [hgf] at hgv
            obtain ⟨vs, hge, hsz, hcap⟩ := hgv
            refine fin f _ (cl.args.map a.eval ++ vs) hok ?_ ?_
            · obtain ⟨l1, l2⟩ := hargsR
              refine ⟨by simp [hsz] at l1 ⊢; omega, fun i c hc => ?_⟩
              by_cases hi : i < (args.map (Opd.ev e)).length
              · rw [List.getElem?_append_left hi] at hc
                obtain ⟨u, hu, hr⟩ := l2 i c hc
                exact ⟨u, by rw [Array.getElem?_append_left (by omega)]; exact hu, hr⟩
              · rw [List.getElem?_append_right (by omega), List.getElem?_map] at hc
                simp only [Option.map_eq_some_iff] at hc
                obtain ⟨q, hq, rfl⟩ := hc
                obtain ⟨pl, p1, p2⟩ := hcap _ q hq
                refine ⟨_, ?_, ⟨pl, p1, rfl⟩⟩
                rw [Array.getElem?_append_right (by omega), ← l1]
                exact p2
            · rw [hex]
              simp only [resolve, hg, hge, Deferred.ofValue, pure_bind, invoke, Array.empty_append]
              exact callFunc_run hok.1 w
          · simp at hv
        · simp at hc
    case binOp op t x y yt =>
      have := compBin_pure hc
      rw [this] at hcall; simp at hcall
    case convert s d x =>
      exfalso
      unfold compConv at hc
      simp only [Option.bind_eq_some_iff] at hc
      obtain ⟨x', hx', hc⟩ := hc
      repeat' split at hc
      all_goals first
        | (simp at hc; done)
        | (simp at hc; subst hc; simp [COp.cls] at hcall; done)
    case makeFunc fn first caps =>
      exfalso
      cases fn <;> simp only at hc <;> try (simp at hc; done)
      split at hc
      · simp only [Option.map_eq_some_iff] at hc
        obtain ⟨_, _, rfl⟩ := hc
        simp [COp.cls] at hcall
      · simp at hc
    case next x b =>
      exfalso
      cases b
      · simp at hc
      · simp only [Option.map_eq_some_iff] at hc
        obtain ⟨_, _, rfl⟩ := hc
        simp [COp.cls] at hcall
    all_goals first
      | (simp at hc; done)
      | (exfalso
         repeat' split at hc
         all_goals first
           | (simp at hc; done)
           | (simp at hc; subst hc; simp [COp.cls] at hcall; done)
           | (simp only [Option.map_eq_some_iff] at hc; obtain ⟨_, _, rfl⟩ := hc; simp [COp.cls] at hcall; done))
  · have hv' : exec e h c = some (v, h') := by
      cases c <;> first | (simp [COp.cls] at hcall; done) | (simp only [runOp] at hv; exact hv)
    have hA : Agree K h (touched e c) := by simpa [Needs, hcall] using hA
    obtain ⟨μ', u, w', hrun, hu, hst, hsim⟩ := sim_any hc hcall hv' hR hSim.toSimV hA (fun hl => hF _ (Nat.le_refl _) hl)
    unfold Oper.wp
    rcases hrun with hrun | ⟨hrun, rfl⟩
    · rw [hrun, Oper.upon_value]
      exact hnext u w' ⟨μ', hu, hst, hsim⟩
    · rw [hrun, Oper.upon_skip]
      exact hnext undef w' ⟨μ', hu, hst, hsim⟩

def SoundBelow (G : Nat → Obj → Prop) (P : Program) (hk : Hook) (n : Nat) : Prop := ∀ m, m < n → CallSound G P hk m

/-- operations in the order of the text -/
theorem ops_seq {hk : Hook} (hl : HookLen hk) {N : Nat} {ops : Array Oper} {Q : Exit → Act → World → Prop} : ∀ (n : Nat) (l : List CO) (i k : Nat) (e e' : Env) (h h' : Heap) (μ : Mp) (K : View) (w : World) (a : Act), SoundBelow G P hk n →
    (ops.toList.drop i).mapM (fun o => coOf P N ops o false []) = some l → i + k = ops.size → runOps P hk n l e h = some (e', h') → EnvR μ N e a → SimG G μ K w → Agree K h All → Fresh K h h' →
    (∀ a' w' μ', EnvR μ' N e' a' → Step μ K w μ' (updK K h h') w' → SimV μ' (updK K h h') w' → Q .normal a' w') → wpOps P ops Q (List.range' i k) a w := by
  intro n
  induction n with
  | zero => intro l i k e e' h h' μ K w a _ _ _ hr; simp [runOps] at hr
  | succ n ih =>
    intro l i k e e' h h' μ K w a hS hm hik hr hE hSim hA hF hQ
    cases k with
    | zero =>
      have hd : ops.toList.drop i = [] := List.drop_of_length_le (by simp; omega)
      rw [hd] at hm
      simp at hm; subst hm
      simp [runOps] at hr
      obtain ⟨rfl, rfl⟩ := hr
      simp only [List.range'_zero, wpOps]
      exact hQ a w μ hE (by rw [updK_self]; exact Step.refl _ _ _) (by rw [updK_self]; exact hSim.toSimV)
    | succ k =>
      have hi : i < ops.toList.length := by simp; omega
      have hd : ops.toList.drop i = ops.toList[i] :: ops.toList.drop (i + 1) := List.drop_eq_getElem_cons hi
      rw [hd] at hm
      generalize hoe : ops.toList[i] = o at hm
      have hoi : ops[i]? = some o := by rw [← hoe]; simp at hi ⊢
      rw [List.mapM_cons] at hm
      simp only [Option.bind_eq_bind, Option.bind_eq_some_iff, Option.pure_def, Option.some.injEq] at hm
      obtain ⟨co, hco, l', hl', rfl⟩ := hm
      unfold coOf at hco
      split at hco
      · rename_i c g hc hg
        split at hco
        · rename_i hdst
          simp at hco; subst hco
          rw [List.range'_succ]
          simp only [wpOps, hoi]
          have hw := wanted_eq (ops := ops) hE hg
          rw [hw]
          simp only [runOps] at hr
          by_cases hwant : wantedC e g = true
          · rw [if_pos hwant] at hr ⊢
            left
            split at hr
            · rename_i v h1 hop
              split at hr
              · simp at hr
              · obtain ⟨l1, l2, l3, l4⟩ := run_len (P := P) hl n
                have hlen1 := l2 _ _ _ _ _ hop
                have hlen2 := l1 _ _ _ _ _ hr
                cases n with
                | zero => simp [runOp] at hop
                | succ n =>
                  refine op_step (hS n (by omega)) hc hop (opsR_of_env hE) hSim (fun b blk _ h1 h2 => hA b blk trivial h1 h2) (fresh_left hF hlen2) fun u w1 ⟨μ1, hu, hst, hsim⟩ => ?_
                  refine ih l' (i + 1) k (e.put o.dst v) e' h1 h' μ1 (updK K h h1) w1 (a.put o.dst u) (fun m hm => hS m (by omega)) hl' (by omega) hr ((hE.mono hst.ext).put hdst hu) (hSim.step hst hsim) (agree_upd hA) (fresh_right hF hlen1) ?_
                  intro a' w' μ' p1 p2 p3
                  rw [updK_trans hA hlen1 hlen2] at p2 p3
                  exact hQ a' w' μ' p1 (hst.trans p2) p3
            · simp at hr
          · rw [if_neg hwant] at hr ⊢
            exact ih l' (i + 1) k (e.put o.dst .undef) e' h h' μ K w (a.put o.dst undef) (fun m hm => hS m (by omega)) hl' (by omega) hr (hE.put hdst rfl) hSim hA hF hQ
        · simp at hco
      · simp at hco

end
end Go.Cn
