/- Regions that draw their order: the theorem. -/
import Derived.Test.YtlmlpgmpdaepkaaDoorCnDraw3
set_option linter.unusedSimpArgs false
set_option linter.unusedVariables false
set_option linter.unusedSectionVars false
namespace Go.Cn

section
variable {G : Nat → Obj → Prop} {P : Program} {hk : Hook} {n N : Nat} {ops : Array Oper} {l : List Nat} {rs : List Rec} {e e' : Env} {h h' : Heap}

/-- who stands ahead waits for none behind -/
theorem Run.before (R : Run P hk n N ops l rs) {l1 l2 : List Rec} {p q : Rec} (hs : rs = l1 ++ p :: l2) (hq : q ∈ l2) : Nat.testBit (((ancTab ops l).lookup p.x.i).getD 0) q.x.i = false := by
  cases hb : Nat.testBit (((ancTab ops l).lookup p.x.i).getD 0) q.x.i with
  | false => rfl
  | true =>
    exfalso
    have hC : Closed ops (fun i => ∃ z ∈ l1 ++ [p], z.x.i = i) := by
      rintro i o ho ⟨z, hz, rfl⟩ ed he hbd
      obtain ⟨a, b, hab⟩ := List.append_of_mem hz
      have hrs : rs = a ++ z :: (b ++ l2) := by rw [hs, show l1 ++ p :: l2 = (l1 ++ [p]) ++ l2 by simp, hab]; simp
      have hzm : z ∈ rs := by rw [hrs]; simp
      rw [(R.at_ z hzm).1] at ho
      simp at ho; subst ho
      obtain ⟨y, hy, hyi⟩ := (R.dist hrs).2.2 ed he hbd
      exact ⟨y, by rw [hab]; simp [hy], hyi⟩
    obtain ⟨z, hz, hzi⟩ := anc_listed hC l ⟨p, by simp, rfl⟩ hb
    obtain ⟨a, b, hab⟩ := List.append_of_mem hz
    have hrs : rs = a ++ z :: (b ++ l2) := by rw [hs, show l1 ++ p :: l2 = (l1 ++ [p]) ++ l2 by simp, hab]; simp
    exact (R.dist hrs).2.1 q (by simp [hq]) hzi.symm

structure Inv (ops : Array Oper) (N : Nat) (rs : List Rec) (e : Env) (K0 : View) (μ0 : Mp) (w0 : World) (listed : Array Bool) (μ : Mp) (a : Act) (w : World) : Prop where
  size : listed.size = ops.size
  env : EnvR μ N (foldE (fun i => listed.getD i false) rs e) a
  sim : SimV μ (foldK (fun i => listed.getD i false) rs K0) w
  step : Step μ0 K0 w0 μ (foldK (fun i => listed.getD i false) rs K0) w
  closed : Closed ops (fun i => listed.getD i false = true)
  mods : ∀ q ∈ rs, listed.getD q.x.i false = true → q.x.c.cls = .mod → ∀ b, q.ch b → foldK (fun i => listed.getD i false) rs K0 b ≠ none

theorem getD_set {l : Array Bool} {i j : Nat} (hi : i < l.size) : (l.setIfInBounds i true).getD j false = if j = i then true else l.getD j false := by
  by_cases hj : j = i
  · subst hj; simp [hi]
  · rw [if_neg hj]
    simp [Ne.symm hj]

theorem inv_step {listed : Array Bool} {a : Act} {w w0 : World} {μ μ0 : Mp} {K0 : View} (R : Run P hk n N ops l rs) (hS : SoundBelow G P hk n) (hC : Chain rs e h e' h') (hA : Agree K0 h All) (hF : Fresh K0 h h')
    (hG : Held G μ0 K0 w0) (I : Inv ops N rs e K0 μ0 w0 listed μ a w) {i : Nat} (hi : i ∈ Region.ready .any ops listed) {Q : Exit → Act → World → Prop} {next : Act → World → Prop}
    (hnext : ∀ μ' a' w', Inv ops N rs e K0 μ0 w0 (listed.setIfInBounds i true) μ' a' w' → next a' w') : wpOp P ops Q i next a w := by
  have hlen : ∀ r ∈ rs, r.h.length ≤ r.h1.length := fun r hr => (R.ok r hr).len
  simp only [Region.ready, List.mem_filter, List.mem_range, Bool.and_eq_true, Bool.not_eq_eq_eq_not, Bool.not_true] at hi
  obtain ⟨hin, hun, hrdy⟩ := hi
  obtain ⟨r, hr, rfl⟩ := R.all i hin
  obtain ⟨hoi, hcomp⟩ := R.at_ r hr
  have hun' : listed.getD r.x.i false = false := by
    rw [Array.getD_eq_getD_getElem?] at hun ⊢
    rw [Array.getElem?_eq_getElem (by rw [I.size]; exact hin)] at hun ⊢
    exact hun
  have hrdy' : ∀ ed ∈ r.x.o.after, Region.binds .any ed = true → listed.getD ed.on false = true := by
    rw [hoi] at hrdy
    simp only [Option.map_some, Option.getD_some] at hrdy
    intro ed he hb
    have := Array.all_eq_true_iff_forall_mem.1 hrdy ed he
    simpa [hb] using this
  obtain ⟨l1, l2, hs⟩ := List.append_of_mem hr
  obtain ⟨d1, d2, d3⟩ := R.dist hs
  obtain ⟨er, hh, hC1, hC2⟩ := chain_split (hs ▸ hC)
  obtain ⟨rfl, rfl, hC3⟩ := hC2
  have okr := R.ok r hr
  -- pairs
  have pl : ∀ q ∈ l1, listed.getD q.x.i false = false → Oper.apart ops q.x.o r.x.o = true ∧ Oper.apart ops r.x.o q.x.o = true ∧ (∀ b, r.ch b → ¬ Needs q.e q.x.c b) ∧ (∀ b, q.ch b → wantedC r.e r.co.g = true → ¬ Needs r.e r.x.c b) := by
    intro q hq hqu
    obtain ⟨x, y, hxy⟩ := List.append_of_mem hq
    have hs' : rs = x ++ q :: (y ++ r :: l2) := by rw [hs, hxy]; simp
    have hf1 : Nat.testBit (((ancTab ops l).lookup r.x.i).getD 0) q.x.i = false := by
      cases hb : Nat.testBit (((ancTab ops l).lookup r.x.i).getD 0) q.x.i with
      | false => rfl
      | true =>
        have := anc_ready I.closed l hoi hrdy' hb (d1 q hq)
        rw [hqu] at this; simp at this
    obtain ⟨a1, a2, a3, a4, _⟩ := R.pair hC hs' ⟨hf1, R.before hs' (by simp)⟩
    exact ⟨a1, a2, a3, a4⟩
  have pr : ∀ q ∈ l2, listed.getD q.x.i false = true → Oper.apart ops r.x.o q.x.o = true ∧ Oper.apart ops q.x.o r.x.o = true ∧ (∀ b, q.ch b → ¬ Needs r.e r.x.c b) ∧ (∀ b, q.ch b → q.x.c.cls = .call → r.x.c.cls = .pure) := by
    intro q hq hql
    obtain ⟨x, y, hxy⟩ := List.append_of_mem hq
    have hs' : rs = l1 ++ r :: (x ++ q :: y) := by rw [hs, hxy]
    have hf1 : Nat.testBit (((ancTab ops l).lookup q.x.i).getD 0) r.x.i = false := by
      cases hb : Nat.testBit (((ancTab ops l).lookup q.x.i).getD 0) r.x.i with
      | false => rfl
      | true =>
        have := anc_listed I.closed l hql hb
        rw [hun'] at this; simp at this
    obtain ⟨a1, a2, a3, _, a5⟩ := R.pair hC hs' ⟨hf1, R.before hs' (by simp)⟩
    exact ⟨a1, a2, a3, a5⟩
  have hlen1 : ∀ q ∈ l1, q.h.length ≤ q.h1.length := fun q hq => hlen q (by rw [hs]; simp [hq])
  have hlen2 : ∀ q ∈ l2, q.h.length ≤ q.h1.length := fun q hq => hlen q (by rw [hs]; simp [hq])
  obtain ⟨c1, c2⟩ := chain_len hlen1 hC1
  obtain ⟨c3, c4⟩ := chain_len hlen2 hC3
  have clen := okr.len
  -- what it looks at
  have L1 : ∀ t ∈ r.x.o.looksAt ops, foldE (fun i => listed.getD i false) rs e t = r.e t := by
    intro t ht
    have s1 : foldE (fun i => listed.getD i false) l1 e t = r.e t := by
      rw [foldE_at (q := fun _ => true) (e' := e) rfl, foldE_all (fun _ _ => rfl) hC1]
      intro q hq hne
      have hqu : listed.getD q.x.i false = false := by simpa using hne
      obtain ⟨a1, _, _, _⟩ := pl q hq hqu
      intro hd
      exact (Oper.apart_spec a1).1 t hd ht
    rw [hs, foldE_app, foldE_at (q := fun _ => false) (e' := foldE (fun i => listed.getD i false) l1 e) rfl, foldE_no, s1]
    intro q hq hne
    have hql : listed.getD q.x.i false = true := by simpa using hne
    rcases List.mem_cons.1 hq with rfl | hq
    · rw [hun'] at hql; simp at hql
    · obtain ⟨_, a2, _, _⟩ := pr q hq hql
      intro hd
      exact (Oper.apart_spec a2).1 t hd ht
  have hsz : r.x.i < listed.size := by rw [I.size]; exact hin
  have set_ : ∀ q : Rec, q.x.i ≠ r.x.i → (listed.setIfInBounds r.x.i true).getD q.x.i false = listed.getD q.x.i false := fun q hq => by rw [getD_set hsz, if_neg hq]
  have set_i : (listed.setIfInBounds r.x.i true).getD r.x.i false = true := by rw [getD_set hsz, if_pos rfl]
  have L2 : foldE (fun i => (listed.setIfInBounds r.x.i true).getD i false) rs e = (foldE (fun i => listed.getD i false) rs e).put r.x.o.dst r.v := by
    rw [hs, foldE_app, foldE_app]
    simp only [foldE, set_i, hun', if_true, Bool.false_eq_true, if_false]
    rw [foldE_same (q := fun i => listed.getD i false) (fun q hq => set_ q (d1 q hq)), foldE_same (q := fun i => listed.getD i false) (fun q hq => set_ q (d2 q hq))]
    refine foldE_put fun q hq hql t hd => ?_
    obtain ⟨a1, _, _, _⟩ := pr q hq hql
    exact (Oper.apart_spec a1).2.1 t hd
  -- blocks that it makes
  have L5 : ∀ b, r.h.length ≤ b → b < r.h1.length → foldK (fun i => listed.getD i false) rs K0 b = none := by
    intro b hb1 hb2
    refine foldK_none (hF b (by omega) (by omega)) fun q hq hql => ?_
    rw [hs] at hq
    rcases List.mem_append.1 hq with hq | hq
    · have := c2 q hq; omega
    · rcases List.mem_cons.1 hq with rfl | hq
      · rw [hun'] at hql; simp at hql
      · have := c4 q hq; omega
  have L3 : wantedC r.e r.co.g = true → Agree (foldK (fun i => listed.getD i false) rs K0) r.h (Needs r.e r.x.c) := by
    intro hw b blk hN hb hK
    have h1 : foldK (fun i => listed.getD i false) rs K0 b = foldK (fun i => listed.getD i false) l1 K0 b := by
      rw [hs, foldK_app]
      simp only [foldK, hun', Bool.false_eq_true, if_false]
      refine foldK_behind (fun q hq => ?_) fun q hq hql hch => ?_
      · have := c4 q hq; omega
      · exact (pr q hq hql).2.2.1 b hch hN
    rw [h1] at hK
    have h2 := foldK_ahead (p := fun i => listed.getD i false) (b := b) l1 hlen1 hC1 (K := K0) (K' := K0) (.inr rfl) (fun hb' => hF b hb' (by omega)) fun q hq hqu hch => (pl q hq hqu).2.2.2 b hch hw hN
    rcases h2 with h2 | h2
    · rw [h2] at hK; simp at hK
    · rw [h2, foldK_all hlen1 (fun _ _ => rfl) hC1 hA] at hK
      exact agree_upd hA b blk trivial hb hK
  have L4 : foldK (fun i => (listed.setIfInBounds r.x.i true).getD i false) rs K0 = updK (foldK (fun i => listed.getD i false) rs K0) r.h r.h1 := by
    have hl0 : foldK (fun i => listed.getD i false) rs K0 = foldK (fun i => listed.getD i false) l2 (foldK (fun i => listed.getD i false) l1 K0) := by
      conv => lhs; rw [hs, foldK_app]
      simp only [foldK, hun', Bool.false_eq_true, if_false]
    rw [hl0]
    conv => lhs; rw [hs, foldK_app]
    simp only [foldK, set_i, if_true]
    rw [foldK_same (q := fun i => listed.getD i false) (fun q hq => set_ q (d1 q hq)), foldK_same (q := fun i => listed.getD i false) (fun q hq => set_ q (d2 q hq))]
    refine foldK_comm clen (fun q hq => ⟨(c4 q hq).1, hlen2 q hq⟩) fun q hq hql => ⟨fun b hb hne hch => ?_, fun b hb1 hb2 hch => ?_⟩
    · exact (pr q hq hql).2.2.1 b hch (ch_cls okr ⟨hb, hne⟩).2.1
    · obtain ⟨k1, k2, k3⟩ := ch_cls (R.ok q (by rw [hs]; simp [hq])) hch
      rcases k1 with k1 | k1
      · exact I.mods q (by rw [hs]; simp [hq]) hql k1 b hch (L5 b hb1 hb2)
      · exact new_cls okr (by omega) ((pr q hq hql).2.2.2 b hch k1)
  have hE := I.env
  have hgw : Region.wanted r.x.o (yielded ops a.tmps) = wantedC r.e r.co.g := by rw [wanted_eq hE okr.g, wantedC_same okr.g L1]
  have hcl : Closed ops (fun i => (listed.setIfInBounds r.x.i true).getD i false = true) := by
    intro j o ho hj ed he hb
    simp only [getD_set hsz] at hj ⊢
    split
    · rfl
    · split at hj
      · rename_i hjr
        subst hjr
        rw [hoi] at ho; simp at ho; subst ho
        exact hrdy' ed he hb
      · exact I.closed j o ho hj ed he hb
  have hmods : ∀ q ∈ rs, (listed.setIfInBounds r.x.i true).getD q.x.i false = true → q.x.c.cls = .mod → ∀ b, q.ch b → updK (foldK (fun i => listed.getD i false) rs K0) r.h r.h1 b ≠ none := by
    intro q hq hql hqm b hch
    have hK : foldK (fun i => listed.getD i false) rs K0 b ≠ none := by
      by_cases hqi : q.x.i = r.x.i
      · have hqr : q = r := by
          rw [hs] at hq
          rcases List.mem_append.1 hq with hq | hq
          · exact absurd hqi (d1 q hq)
          · rcases List.mem_cons.1 hq with rfl | hq
            · rfl
            · exact absurd hqi (d2 q hq)
        subst hqr
        obtain ⟨_, hN, _⟩ := ch_cls okr hch
        simp only [Needs, hqm] at hN
        obtain ⟨x', hx', hb⟩ := hN
        obtain ⟨x, hx, hxo⟩ := addrs_ops hcomp hx'
        have := opsR_same hE L1 x hx x' hxo
        have hμ : ∃ pl, μ b = some pl := by
          generalize x'.ev q.e = c at this hb
          cases c <;> simp [blockOf] at hb
          · subst hb; obtain ⟨pl, hp, _⟩ := this; exact ⟨pl, hp⟩
          · subst hb; obtain ⟨pl, _, _, hp, _⟩ := this; exact ⟨pl, hp⟩
        obtain ⟨pl, hpl⟩ := hμ
        obtain ⟨blk, hblk⟩ := I.sim.dom b pl hpl
        rw [hblk]; simp
      · rw [set_ q hqi] at hql
        exact I.mods q hq hql hqm b hch
    have := foldK_some (p := fun _ => true) (rs := [r]) hK (by simpa using clen)
    simpa [foldK] using this
  have fin : ∀ μ' a' w' u, a' = a.put r.x.o.dst u → VR μ' r.v u → Step μ (foldK (fun i => listed.getD i false) rs K0) w μ' (updK (foldK (fun i => listed.getD i false) rs K0) r.h r.h1) w' →
      SimV μ' (updK (foldK (fun i => listed.getD i false) rs K0) r.h r.h1) w' → next a' w' := by
    intro μ' a' w' u ha hv hst hsim
    subst ha
    refine hnext μ' _ w' ⟨by simp [I.size], ?_, ?_, ?_, hcl, ?_⟩
    · rw [L2]; exact (hE.mono hst.ext).put okr.d hv
    · rw [L4]; exact hsim
    · rw [L4]; exact I.step.trans hst
    · rw [L4]; exact hmods
  unfold wpOp
  simp only [hoi, hgw]
  rcases okr.run with ⟨hw, ⟨m, hm, hrun⟩, _, _⟩ | ⟨hw, hv, hh⟩
  · rw [if_pos hw]
    left
    exact op_step (hS m hm) hcomp hrun (opsR_same hE L1) ⟨I.sim, hG.step I.step⟩ (L3 hw) L5 fun u w' ⟨μ', hu, hst, hsim⟩ => fin μ' _ w' u rfl hu hst hsim
  · rw [if_neg (by simp [hw])]
    refine fin μ _ w undef rfl (by rw [hv]; rfl) ?_ ?_
    · rw [hh, updK_self]; exact Step.refl _ _ _
    · rw [hh, updK_self]; exact I.sim

theorem ready_nil {listed : Array Bool} (R : Run P hk n N ops l rs) (hsz : listed.size = ops.size) (hr : Region.ready .any ops listed = []) : ∀ r ∈ rs, listed.getD r.x.i false = true := by
  have key : ∀ (l1 l2 : List Rec), rs = l1 ++ l2 → ∀ r ∈ l1, listed.getD r.x.i false = true := by
    intro l1
    induction hk' : l1.length generalizing l1 with
    | zero => intro l2 _ r hr; rw [List.eq_nil_of_length_eq_zero hk'] at hr; simp at hr
    | succ k ih =>
      intro l2 hs r hrm
      obtain ⟨l0, z, rfl⟩ : ∃ l0 z, l1 = l0 ++ [z] := ⟨l1.dropLast, l1.getLast (by intro h; simp [h] at hk'), (List.dropLast_concat_getLast _).symm⟩
      have ih' := ih l0 (by simpa using hk') (z :: l2) (by rw [hs]; simp)
      rcases List.mem_append.1 hrm with hrm | hrm
      · exact ih' r hrm
      · simp at hrm; subst hrm
        have hs' : rs = l0 ++ r :: l2 := by rw [hs]; simp
        have hmem : r ∈ rs := by rw [hs']; simp
        obtain ⟨hoi, _⟩ := R.at_ r hmem
        have hin : r.x.i < ops.size := by
          rcases Array.getElem?_eq_some_iff.1 hoi with ⟨h, _⟩; exact h
        cases hl : listed.getD r.x.i false with
        | true => rfl
        | false =>
          exfalso
          have : r.x.i ∈ Region.ready .any ops listed := by
            simp only [Region.ready, List.mem_filter, List.mem_range, Bool.and_eq_true, Bool.not_eq_eq_eq_not, Bool.not_true]
            refine ⟨hin, ?_, ?_⟩
            · rw [Array.getD_eq_getD_getElem?] at hl ⊢
              rw [Array.getElem?_eq_getElem (by rw [hsz]; exact hin)] at hl ⊢
              exact hl
            · rw [hoi]
              simp only [Option.map_some, Option.getD_some]
              refine Array.all_eq_true_iff_forall_mem.2 fun ed he => ?_
              cases hb : Region.binds .any ed with
              | false => rfl
              | true =>
                obtain ⟨q, hq, hqi⟩ := (R.dist hs').2.2 ed he hb
                rw [← hqi]; simp only [Bool.not_true, Bool.false_or]; exact ih' q hq
          rw [hr] at this; simp at this
  exact key rs [] (by simp)

def left (listed : Array Bool) (N : Nat) : Nat := ((List.range N).filter fun i => !listed.getD i false).length

theorem left_lt {listed : Array Bool} {N i : Nat} (hi : i < N) (hs : i < listed.size) (hu : listed.getD i false = false) : left (listed.setIfInBounds i true) N < left listed N := by
  unfold left
  have : ((List.range N).filter fun j => !(listed.setIfInBounds i true).getD j false) = ((List.range N).filter fun j => !listed.getD j false).filter (fun j => j != i) := by
    rw [List.filter_filter]
    refine List.filter_congr fun j _ => ?_
    rw [getD_set hs]
    by_cases hj : j = i <;> simp [hj]
  rw [this]
  refine List.length_filter_lt_length_iff_exists.2 ⟨i, ?_, by simp⟩
  simp only [List.mem_filter, List.mem_range]
  exact ⟨hi, by rw [hu]; rfl⟩

theorem draw_any {w0 : World} {μ0 : Mp} {K0 : View} (R : Run P hk n N ops l rs) (hS : SoundBelow G P hk n) (hC : Chain rs e h e' h') (hA : Agree K0 h All) (hF : Fresh K0 h h') (hG : Held G μ0 K0 w0) {Q : Exit → Act → World → Prop}
    (hQ : ∀ a' w' μ', EnvR μ' N e' a' → Step μ0 K0 w0 μ' (updK K0 h h') w' → SimV μ' (updK K0 h h') w' → Q .normal a' w') :
    ∀ (fuel : Nat) (listed : Array Bool) (a : Act) (w : World) (μ : Mp), Inv ops N rs e K0 μ0 w0 listed μ a w → left listed ops.size ≤ fuel → wpAny P .any ops Q fuel listed a w := by
  have hlen : ∀ r ∈ rs, r.h.length ≤ r.h1.length := fun r hr => (R.ok r hr).len
  have fin : ∀ (listed : Array Bool) (a : Act) (w : World) (μ : Mp), Inv ops N rs e K0 μ0 w0 listed μ a w → Region.ready .any ops listed = [] → Q .normal a w := by
    intro listed a w μ I hr
    have hall := ready_nil R I.size hr
    have h1 := I.env
    have h2 := I.step
    have h3 := I.sim
    rw [foldE_all hall hC] at h1
    rw [foldK_all hlen hall hC hA] at h2 h3
    exact hQ a w μ h1 h2 h3
  intro fuel
  induction fuel with
  | zero =>
    intro listed a w μ I hl
    have hr : Region.ready .any ops listed = [] := by
      refine List.eq_nil_iff_forall_not_mem.2 fun i hi => ?_
      simp only [Region.ready, List.mem_filter, List.mem_range, Bool.and_eq_true, Bool.not_eq_eq_eq_not, Bool.not_true] at hi
      obtain ⟨hin, hun, _⟩ := hi
      have : i ∈ ((List.range ops.size).filter fun i => !listed.getD i false) := by
        simp only [List.mem_filter, List.mem_range]
        refine ⟨hin, ?_⟩
        rw [Array.getD_eq_getD_getElem?] at hun ⊢
        rw [Array.getElem?_eq_getElem (by rw [I.size]; exact hin)] at hun ⊢
        simp at hun ⊢; exact hun
      have := List.length_pos_of_mem this
      unfold left at hl
      omega
    exact ⟨hr, fin listed a w μ I hr⟩
  | succ fuel ih =>
    intro listed a w μ I hl
    refine ⟨fin listed a w μ I, fun i hi => inv_step R hS hC hA hF hG I hi fun μ' a' w' I' => ih _ a' w' μ' I' ?_⟩
    simp only [Region.ready, List.mem_filter, List.mem_range, Bool.and_eq_true, Bool.not_eq_eq_eq_not, Bool.not_true] at hi
    obtain ⟨hin, hun, _⟩ := hi
    have hsz : i < listed.size := by rw [I.size]; exact hin
    have hu : listed.getD i false = false := by
      rw [Array.getD_eq_getD_getElem?] at hun ⊢
      rw [Array.getElem?_eq_getElem hsz] at hun ⊢
      exact hun
    have := left_lt hin hsz hu
    omega

theorem foldE_none {rs : List Rec} {e : Env} {p : Nat → Bool} (h : ∀ i, p i = false) : foldE p rs e = e := by
  have : p = fun _ => false := funext h
  rw [this]; exact foldE_no
theorem foldK_nothing {p : Nat → Bool} (h : ∀ i, p i = false) : ∀ {rs : List Rec} {K : View}, foldK p rs K = K := by
  intro rs
  induction rs with
  | nil => intro K; rfl
  | cons r rs ih => intro K; simp only [foldK, h, Bool.false_eq_true, if_false]; exact ih

theorem mapM_trOf {l : List Nat} : ∀ {tr : List Tr}, l.mapM (trOf P ops) = some tr → tr.map (·.i) = l ∧ ∀ x ∈ tr, ops[x.i]? = some x.o ∧ compOp P x.o = some x.c := by
  induction l with
  | nil => intro tr h; simp at h; subst h; exact ⟨rfl, fun x hx => by simp at hx⟩
  | cons i l ih =>
    intro tr h
    rw [List.mapM_cons] at h
    simp only [Option.bind_eq_bind, Option.bind_eq_some_iff, Option.pure_def, Option.some.injEq] at h
    obtain ⟨y, hy, l'', hl, rfl⟩ := h
    obtain ⟨i1, i2⟩ := ih hl
    simp only [trOf, Option.bind_eq_some_iff, Option.map_eq_some_iff] at hy
    obtain ⟨o, ho, c, hc, rfl⟩ := hy
    refine ⟨by simp [i1], fun x hx => ?_⟩
    rcases List.mem_cons.1 hx with rfl | hx
    · exact ⟨ho, hc⟩
    · exact i2 x hx

theorem simV_drawn {μ : Mp} {K : View} {w : World} (hS : SimV μ K w) : SimV μ K { w with drawn := w.drawn + 1 } :=
  ⟨hS.dom, fun b blk hK => let ⟨pl, h1, h2⟩ := hS.blk b blk hK; ⟨pl, h1, fun hd => BlkOK.mono (Mp.le_refl _) rfl (h2 hd)⟩, hS.inj⟩

/-- a region, drawn or not -/
theorem region_sound (hl : HookLen hk) (hmix : P.follows .mixedOrders = true) {id : Nat} {draw : Bool} {cos : List CO} (hc : compRegion P N ops draw = some cos) (hS : SoundBelow G P hk n) (hr : runOps P hk n cos e h = some (e', h'))
    {μ : Mp} {K : View} {a : Act} {w : World} (hE : EnvR μ N e a) (hSim : SimG G μ K w) (hA : Agree K h All) (hF : Fresh K h h') {Q : Exit → Act → World → Prop}
    (hQ : ∀ a' w' μ', EnvR μ' N e' a' → Step μ K w μ' (updK K h h') w' → SimV μ' (updK K h h') w' → Q .normal a' w') : (Code.region id ops draw).wp P Q a w := by
  unfold compRegion at hc
  cases draw with
  | false =>
    simp only [Bool.not_false, if_true] at hc
    refine wp_region ?_
    rw [List.range_eq_range']
    exact ops_seq hl n cos 0 ops.size e e' h h' μ K w a hS (by simpa using hc) (by simp) hr hE hSim hA hF hQ
  | true =>
    simp only [Bool.not_true, Bool.false_eq_true, if_false] at hc
    split at hc
    · simp at hc
    · rename_i hord
      split at hc
      · simp at hc
      · rename_i tr htr
        split at hc
        · rename_i hck
          simp only [Bool.and_eq_true] at hck
          obtain ⟨hm1, hm2⟩ := mapM_trOf htr
          obtain ⟨rs, t1, t2, t3, t4⟩ := draw_trace hl tr [] cos n e e' h h' (fun x hx => (hm2 x hx).2) hc hr
          have R : Run P hk n N ops (orderOf ops) rs := by
            refine ⟨?_, ?_, ?_, ?_, ?_, ?_⟩
            · rw [t1]; exact t3
            · intro l1 r l2 hs; simpa using t4 l1 r l2 hs
            · rw [t1]; exact hck.2
            · have := hck.1
              rw [← t1] at this
              simpa [Function.comp_def] using this
            · intro r hr
              exact hm2 r.x (by rw [← t1]; exact List.mem_map.2 ⟨r, hr, rfl⟩)
            · intro i hi
              have : i ∈ orderOf ops := by
                have h2 : ((List.range ops.size).all fun i => (orderOf ops).contains i) = true := by
                  cases hq : ((List.range ops.size).all fun i => (orderOf ops).contains i) with
                  | true => rfl
                  | false => rw [hq] at hord; simp at hord
                have := List.all_eq_true.1 h2 i (by simp [hi])
                simpa using this
              rw [← hm1, ← t1] at this
              obtain ⟨x, hx, hxi⟩ := List.mem_map.1 this
              obtain ⟨r, hr, rfl⟩ := List.mem_map.1 hx
              exact ⟨r, hr, hxi⟩
          have hno : ∀ i, (Array.replicate ops.size false).getD i false = false := by
            intro i
            rw [Array.getD_eq_getD_getElem?]
            cases hq : (Array.replicate ops.size false)[i]? with
            | none => rfl
            | some b =>
              rw [Array.getElem?_replicate] at hq
              split at hq <;> simp at hq
              simp [← hq]
          refine wp_region_any hmix (draw_any (w0 := w) (μ0 := μ) (K0 := K) R hS t2 hA hF hSim.held hQ ops.size _ a _ μ ⟨by simp, ?_, ?_, ?_, ?_, ?_⟩ ?_)
          · rw [foldE_none hno]; exact hE
          · rw [foldK_nothing hno]; exact simV_drawn hSim.toSimV
          · rw [foldK_nothing hno]
            exact ⟨rfl, rfl, rfl, Nat.le_refl _, Mp.le_refl _, fun _ _ _ => rfl, fun b blk pl h hw hm => .inr ⟨b, blk, pl, h, hw, hm, rfl⟩⟩
          · intro i o _ hi; simp only [hno] at hi; simp at hi
          · intro q _ hi; rw [hno] at hi; simp at hi
          · unfold left
            exact Nat.le_trans (List.length_filter_le _ _) (by simp)
        · simp at hc

end
end Go.Cn
