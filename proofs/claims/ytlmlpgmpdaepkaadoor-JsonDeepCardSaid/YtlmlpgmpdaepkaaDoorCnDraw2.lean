/- Regions that draw their order: the records of the canonical run, and pairs of them. -/
import Derived.Test.YtlmlpgmpdaepkaaDoorCnDraw1
set_option linter.unusedSimpArgs false
set_option linter.unusedVariables false
set_option linter.unusedSectionVars false
namespace Go.Cn

structure Rec where
  x : Tr
  co : CO
  e : Env
  h : Heap
  v : CV
  h1 : Heap

structure Rec.Ok (P : Program) (hk : Hook) (n N : Nat) (ops : Array Oper) (tab : List (Nat × Nat)) (all : List Tr) (r : Rec) : Prop where
  co : r.co.op = r.x.c
  g : guardOf ops r.x.o = some r.co.g
  d : dstOK N r.x.o.dst = true
  chk : r.co.chk = needChk tab all r.x
  len : r.h.length ≤ r.h1.length
  run : (wantedC r.e r.co.g = true ∧ (∃ m, m < n ∧ runOp P hk (m + 1) r.x.c r.e r.h = some (r.v, r.h1)) ∧ avoidOK r.e r.co = true ∧ (r.co.chk = true → r.h.Ext r.h1)) ∨
    (wantedC r.e r.co.g = false ∧ r.v = .undef ∧ r.h1 = r.h)

def Chain : List Rec → Env → Heap → Env → Heap → Prop
  | [], e, h, e', h' => e = e' ∧ h = h'
  | r :: rs, e, h, e', h' => r.e = e ∧ r.h = h ∧ Chain rs (e.put r.x.o.dst r.v) r.h1 e' h'

section
variable {P : Program} {hk : Hook} {N : Nat} {ops : Array Oper} {tab : List (Nat × Nat)} {all : List Tr}

theorem draw_trace (hl : HookLen hk) : ∀ (l before : List Tr) (cos : List CO) (n : Nat) (e e' : Env) (h h' : Heap), (∀ x ∈ l, compOp P x.o = some x.c) → drawOps P N ops tab all before l = some cos → runOps P hk n cos e h = some (e', h') →
    ∃ rs : List Rec, rs.map (·.x) = l ∧ Chain rs e h e' h' ∧ (∀ r ∈ rs, r.Ok P hk n N ops tab all) ∧
      ∀ l1 r l2, rs = l1 ++ r :: l2 → avoidOf tab r.x ((l1.map (·.x)).reverse ++ before) [] = some r.co.avoid := by
  intro l
  induction l with
  | nil =>
    intro before cos n e e' h h' _ hd hr
    simp [drawOps] at hd; subst hd
    cases n with
    | zero => simp [runOps] at hr
    | succ n =>
      simp [runOps] at hr
      exact ⟨[], rfl, hr, fun r hr => by simp at hr, fun l1 r l2 hs => by simp at hs⟩
  | cons x l ih =>
    intro before cos n e e' h h' hc hd hr
    simp only [drawOps] at hd
    split at hd
    · simp at hd
    · rename_i av hav
      split at hd
      · rename_i co cos' hco hds
        simp at hd; subst hd
        unfold coOf at hco
        split at hco
        · rename_i c g hc1 hg1
          split at hco
          · rename_i hdst
            simp at hco; subst hco
            rw [hc x (by simp)] at hc1
            simp at hc1
            cases n with
            | zero => simp [runOps] at hr
            | succ n =>
              simp only [runOps] at hr
              obtain ⟨v, h1, hr', hlen, hrun⟩ : ∃ v h1, runOps P hk n cos' (e.put x.o.dst v) h1 = some (e', h') ∧ h.length ≤ h1.length ∧
                  ((wantedC e g = true ∧ (∃ m, m < n + 1 ∧ runOp P hk (m + 1) c e h = some (v, h1)) ∧ avoidOK e { dst := x.o.dst, op := c, g := g, chk := needChk tab all x, avoid := av } = true ∧ (needChk tab all x = true → h.Ext h1)) ∨
                    (wantedC e g = false ∧ v = .undef ∧ h1 = h)) := by
                by_cases hw : wantedC e g = true
                · rw [if_pos hw] at hr
                  split at hr
                  · rename_i v h1 hop
                    split at hr
                    · simp at hr
                    · rename_i hno
                      obtain ⟨_, l2, _, _⟩ := run_len (P := P) hl n
                      cases n with
                      | zero => simp [runOp] at hop
                      | succ n =>
                        refine ⟨v, h1, hr, l2 _ _ _ _ _ hop, .inl ⟨hw, ⟨n, by omega, hop⟩, ?_, ?_⟩⟩
                        · by_cases ha : avoidOK e { dst := x.o.dst, op := c, g := g, chk := needChk tab all x, avoid := av } = true
                          · exact ha
                          · exact absurd (.inl (by simpa using ha)) hno
                        · intro hk'
                          by_cases hx : h.Ext h1
                          · exact hx
                          · exact absurd (.inr ⟨hk', hx⟩) hno
                  · simp at hr
                · rw [if_neg hw] at hr
                  exact ⟨.undef, h, hr, Nat.le_refl _, .inr ⟨by simpa using hw, rfl, rfl⟩⟩
              obtain ⟨rs, m1, m2, m3, m4⟩ := ih (x :: before) cos' n (e.put x.o.dst v) e' h1 h' (fun y hy => hc y (by simp [hy])) hds hr'
              refine ⟨{ x, co := { dst := x.o.dst, op := c, g, chk := needChk tab all x, avoid := av }, e, h, v, h1 } :: rs, by simp [m1], ⟨rfl, rfl, m2⟩, ?_, ?_⟩
              · intro r hr
                rcases List.mem_cons.1 hr with rfl | hr
                · exact ⟨hc1.symm, hg1, hdst, rfl, hlen, by rw [hc1]; exact hrun⟩
                · have := m3 r hr
                  refine ⟨this.co, this.g, this.d, this.chk, this.len, ?_⟩
                  rcases this.run with ⟨p1, ⟨m, p2, p3⟩, p4⟩ | p
                  · exact .inl ⟨p1, ⟨m, by omega, p3⟩, p4⟩
                  · exact .inr p
              · intro l1 r l2 hs
                cases l1 with
                | nil =>
                  simp only [List.nil_append, List.cons.injEq] at hs
                  obtain ⟨rfl, _⟩ := hs
                  simpa using hav
                | cons y l1 =>
                  simp only [List.cons_append, List.cons.injEq] at hs
                  obtain ⟨rfl, hs⟩ := hs
                  have := m4 l1 r l2 hs
                  simpa using this
          · simp at hco
        · simp at hco
      · simp at hd

/-! ### what the looks give for pairs -/

theorem avoid_spec {x : Tr} : ∀ (bef btw : List Tr) (av : List Opd), avoidOf tab x bef btw = some av → ∀ b1 y b2, bef = b1 ++ y :: b2 → y.c.cls.clash x.c.cls = true → Nat.testBit ((tab.lookup x.i).getD 0) y.i = false →
    ∀ o ∈ y.c.addrs, o ∈ av ∧ (∀ z, z = y ∨ z ∈ b1 ∨ z ∈ btw → ∀ n, o = .t n → z.o.dst ≠ some n) := by
  intro bef
  induction bef with
  | nil => intro btw av _ b1 y b2 hs; simp at hs
  | cons z bef ih =>
    intro btw av ha b1 y b2 hs hc ht o ho
    simp only [avoidOf] at ha
    split at ha
    · simp at ha
    · rename_i r hr
      cases b1 with
      | nil =>
        simp only [List.nil_append, List.cons.injEq] at hs
        obtain ⟨rfl, rfl⟩ := hs
        simp only [hc, ht, Bool.not_false, Bool.and_self, if_true] at ha
        split at ha
        · rename_i hall
          simp at ha; subst ha
          refine ⟨by simp [ho], fun z' hz' n hn => ?_⟩
          have := List.all_eq_true.1 hall o ho
          subst hn
          simp only [opdFixed, List.all_eq_true, bne_iff_ne] at this
          refine this z' ?_
          rcases hz' with rfl | hz' | hz'
          · simp
          · simp at hz'
          · simp [hz']
        · simp at ha
      | cons z' b1 =>
        simp only [List.cons_append, List.cons.injEq] at hs
        obtain ⟨rfl, rfl⟩ := hs
        obtain ⟨i1, i2⟩ := ih (z :: btw) r hr b1 y b2 rfl hc ht o ho
        refine ⟨?_, fun q hq n hn => i2 q ?_ n hn⟩
        · split at ha
          · split at ha
            · simp at ha; subst ha; simp [i1]
            · simp at ha
          · simp at ha; subst ha; exact i1
        · rcases hq with h | h | h
          · exact .inl h
          · rcases List.mem_cons.1 h with h | h
            · exact .inr (.inr (by simp [h]))
            · exact .inr (.inl h)
          · exact .inr (.inr (by simp [h]))

theorem pairs_spec : ∀ (tr : List Tr), pairsOK ops tab tr = true → ∀ l1 x l2, tr = l1 ++ x :: l2 → ∀ y ∈ l2, Nat.testBit ((tab.lookup y.i).getD 0) x.i = true ∨ (Oper.apart ops x.o y.o = true ∧ Oper.apart ops y.o x.o = true ∧ x.c.cls.apart y.c.cls = true) := by
  intro tr
  induction tr with
  | nil => intro _ l1 x l2 hs; simp at hs
  | cons z tr ih =>
    intro hp l1 x l2 hs y hy
    simp only [pairsOK, Bool.and_eq_true] at hp
    cases l1 with
    | nil =>
      simp only [List.nil_append, List.cons.injEq] at hs
      obtain ⟨rfl, rfl⟩ := hs
      have := List.all_eq_true.1 hp.1 y hy
      simpa [Bool.or_eq_true, Bool.and_eq_true, and_assoc] using this
    | cons z' l1 =>
      simp only [List.cons_append, List.cons.injEq] at hs
      exact ih hp.2 l1 x l2 hs.2 y hy

theorem needChk_of {x y : Tr} (hx : x.c.cls = .call) (hy : y ∈ all) (hi : y.i ≠ x.i) (hc : y.c.cls ≠ .pure) (h1 : Nat.testBit ((tab.lookup y.i).getD 0) x.i = false) (h2 : Nat.testBit ((tab.lookup x.i).getD 0) y.i = false) : needChk tab all x = true := by
  simp only [needChk, hx, decide_true, Bool.true_and, List.any_eq_true]
  exact ⟨y, hy, by simp [hi, hc, h1, h2]⟩

/-! ### changes -/

/-- the record turned block b -/
def Rec.ch (r : Rec) (b : Nat) : Prop := b < r.h.length ∧ r.h1[b]? ≠ r.h[b]?

theorem not_ch_ext {r : Rec} (h : r.h.Ext r.h1) (b : Nat) : ¬ r.ch b := by
  rintro ⟨hb, hne⟩
  obtain ⟨x, hx⟩ := h
  rw [hx, List.getElem?_append_left hb] at hne
  exact hne rfl

theorem addrs_nil {c : COp} (h : c.cls = .pure ∨ c.cls = .alloc) : c.addrs = [] := by
  cases c <;> first | rfl | (rcases h with h | h <;> simp [COp.cls] at h)

theorem needs_nil {e : Env} {c : COp} {b : Nat} (h : c.cls = .pure ∨ c.cls = .alloc) : ¬ Needs e c b := by
  unfold Needs
  rw [if_neg (by rcases h with h | h <;> rw [h] <;> simp)]
  rintro ⟨x, hx, _⟩
  rw [addrs_nil h] at hx
  simp at hx

variable {n : Nat} {r : Rec}

theorem ok_exec (hok : r.Ok P hk n N ops tab all) (hc : r.x.c.cls ≠ .call) : r.h1 = r.h ∨ exec r.e r.h r.x.c = some (r.v, r.h1) := by
  rcases hok.run with ⟨_, ⟨m, _, hr⟩, _⟩ | ⟨_, _, h⟩
  · right
    generalize r.x.c = c at hr hc
    cases c <;> first | (simp [COp.cls] at hc; done) | (simp only [runOp] at hr; exact hr)
  · exact .inl h

/-- only what writes or calls turns a block, and it turns what it needs -/
theorem ch_cls (hok : r.Ok P hk n N ops tab all) {b : Nat} (hb : r.ch b) : (r.x.c.cls = .mod ∨ r.x.c.cls = .call) ∧ Needs r.e r.x.c b ∧ wantedC r.e r.co.g = true := by
  have hw : wantedC r.e r.co.g = true := by
    rcases hok.run with ⟨h, _⟩ | ⟨_, _, h⟩
    · exact h
    · exact absurd (by rw [h]) hb.2
  by_cases hc : r.x.c.cls = .call
  · exact ⟨.inr hc, by simp [Needs, hc, All], hw⟩
  · rcases ok_exec hok hc with h | h
    · exact absurd (by rw [h]) hb.2
    · cases hcl : r.x.c.cls with
      | call => exact absurd hcl hc
      | pure => exact absurd (by rw [exec_same (.inl hcl) h]) hb.2
      | load => exact absurd (by rw [exec_same (.inr hcl) h]) hb.2
      | alloc =>
        obtain ⟨blk, hx⟩ := exec_alloc hcl h
        exact absurd hb (not_ch_ext ⟨_, hx⟩ b)
      | mod => exact ⟨.inl rfl, by simp only [Needs, hcl]; exact exec_mod hcl h hb.1 hb.2, hw⟩

/-- what makes a block is not pure -/
theorem new_cls (hok : r.Ok P hk n N ops tab all) (hlt : r.h.length < r.h1.length) : r.x.c.cls ≠ .pure := by
  intro hp
  rcases ok_exec hok (by rw [hp]; simp) with h | h
  · rw [h] at hlt; omega
  · rw [exec_same (.inl hp) h] at hlt; omega

theorem ok_ext (hok : r.Ok P hk n N ops tab all) (hn : needChk tab all r.x = true) : r.h.Ext r.h1 := by
  rcases hok.run with ⟨_, _, _, h⟩ | ⟨_, _, h⟩
  · exact h (hok.chk.trans hn)
  · exact ⟨[], by rw [h]; simp⟩

end

theorem chain_put {rs : List Rec} : ∀ {e e' : Env} {h h' : Heap}, Chain rs e h e' h' → ∀ t, (∀ r ∈ rs, r.x.o.dst ≠ some t) → e' t = e t := by
  induction rs with
  | nil => intro e e' h h' hc t _; rw [hc.1]
  | cons r rs ih =>
    intro e e' h h' hc t ht
    rw [ih hc.2.2 t fun q hq => ht q (by simp [hq])]
    simp only [Env.put]
    rw [if_neg (ht r (by simp))]

theorem chain_split {l1 l2 : List Rec} : ∀ {e e' : Env} {h h' : Heap}, Chain (l1 ++ l2) e h e' h' → ∃ e1 h1, Chain l1 e h e1 h1 ∧ Chain l2 e1 h1 e' h' := by
  induction l1 with
  | nil => intro e e' h h' hc; exact ⟨e, h, ⟨rfl, rfl⟩, hc⟩
  | cons r l1 ih =>
    intro e e' h h' hc
    obtain ⟨e1, h1, c1, c2⟩ := ih hc.2.2
    exact ⟨e1, h1, ⟨hc.1, hc.2.1, c1⟩, c2⟩

/-- everything known of a run of a region -/
structure Run (P : Program) (hk : Hook) (n N : Nat) (ops : Array Oper) (l : List Nat) (rs : List Rec) : Prop where
  ok : ∀ r ∈ rs, r.Ok P hk n N ops (ancTab ops l) (rs.map (·.x))
  av : ∀ l1 r l2, rs = l1 ++ r :: l2 → avoidOf (ancTab ops l) r.x ((l1.map (·.x)).reverse) [] = some r.co.avoid
  pairs : pairsOK ops (ancTab ops l) (rs.map (·.x)) = true
  topo : topoOK [] (rs.map fun r => (r.x.i, r.x.o)) = true
  at_ : ∀ r ∈ rs, ops[r.x.i]? = some r.x.o ∧ compOp P r.x.o = some r.x.c
  all : ∀ i, i < ops.size → ∃ r ∈ rs, r.x.i = i

section
variable {P : Program} {hk : Hook} {n N : Nat} {ops : Array Oper} {l : List Nat} {rs : List Rec} {e e' : Env} {h h' : Heap}

theorem topo_seen : ∀ (l : List (Nat × Oper)) (seen : List Nat), topoOK seen l = true → (∀ i ∈ seen, ∀ x ∈ l, x.1 ≠ i) ∧ ∀ l1 x l2, l = l1 ++ x :: l2 → (∀ y ∈ l1, y.1 ≠ x.1) ∧ (∀ y ∈ l2, y.1 ≠ x.1) ∧
    ∀ e ∈ x.2.after, Region.binds .any e = true → e.on ∈ seen ∨ ∃ y ∈ l1, y.1 = e.on := by
  intro l
  induction l with
  | nil => intro seen _; exact ⟨fun i _ x hx => by simp at hx, fun l1 x l2 hs => by simp at hs⟩
  | cons z l ih =>
    intro seen ht
    simp only [topoOK, Bool.and_eq_true, Bool.not_eq_eq_eq_not, Bool.not_true] at ht
    obtain ⟨⟨t1, t2⟩, t3⟩ := ht
    obtain ⟨i1, i2⟩ := ih _ t3
    refine ⟨fun i hi x hx => ?_, fun l1 x l2 hs => ?_⟩
    · rcases List.mem_cons.1 hx with rfl | hx
      · rintro rfl; simp [hi] at t1
      · exact i1 i (by simp [hi]) x hx
    · cases l1 with
      | nil =>
        simp only [List.nil_append, List.cons.injEq] at hs
        obtain ⟨rfl, rfl⟩ := hs
        refine ⟨fun y hy => by simp at hy, fun y hy => i1 z.1 (by simp) y hy, fun e he hb => .inl ?_⟩
        have := Array.all_eq_true_iff_forall_mem.1 t2 e he
        simpa [hb] using this
      | cons z' l1 =>
        simp only [List.cons_append, List.cons.injEq] at hs
        obtain ⟨rfl, rfl⟩ := hs
        obtain ⟨j1, j2, j3⟩ := i2 l1 x l2 rfl
        refine ⟨fun y hy => ?_, j2, fun e he hb => ?_⟩
        · rcases List.mem_cons.1 hy with rfl | hy
          · exact (i1 y.1 (by simp) x (by simp)).symm
          · exact j1 y hy
        · rcases j3 e he hb with h | ⟨y, hy, h⟩
          · rcases List.mem_cons.1 h with h | h
            · exact .inr ⟨z, by simp, h.symm⟩
            · exact .inl h
          · exact .inr ⟨y, by simp [hy], h⟩

theorem Run.dist (R : Run P hk n N ops l rs) {l1 l2 : List Rec} {r : Rec} (hs : rs = l1 ++ r :: l2) : (∀ q ∈ l1, q.x.i ≠ r.x.i) ∧ (∀ q ∈ l2, q.x.i ≠ r.x.i) ∧ ∀ e ∈ r.x.o.after, Region.binds .any e = true → ∃ q ∈ l1, q.x.i = e.on := by
  obtain ⟨_, t⟩ := topo_seen _ _ R.topo
  obtain ⟨t1, t2, t3⟩ := t (l1.map fun r => (r.x.i, r.x.o)) (r.x.i, r.x.o) (l2.map fun r => (r.x.i, r.x.o)) (by rw [hs]; simp)
  refine ⟨fun q hq => t1 (q.x.i, q.x.o) (List.mem_map.2 ⟨q, hq, rfl⟩), fun q hq => t2 (q.x.i, q.x.o) (List.mem_map.2 ⟨q, hq, rfl⟩), fun e he hb => ?_⟩
  rcases t3 e he hb with h | ⟨y, hy, h⟩
  · simp at h
  · obtain ⟨q, hq, rfl⟩ := List.mem_map.1 hy
    exact ⟨q, hq, h⟩

/-- neither waits for the other -/
def Free (ops : Array Oper) (l : List Nat) (p q : Rec) : Prop :=
  Nat.testBit (((ancTab ops l).lookup q.x.i).getD 0) p.x.i = false ∧ Nat.testBit (((ancTab ops l).lookup p.x.i).getD 0) q.x.i = false

theorem same_block {e : Env} {o : CO} {x y : Opd} {b : Nat} (h : avoidOK e o = true) (hx : x ∈ o.avoid) (hy : y ∈ o.op.addrs) (h1 : blockOf (x.ev e) = some b) (h2 : blockOf (y.ev e) = some b) : False := by
  have := List.all_eq_true.1 (List.all_eq_true.1 h x hx) y hy
  rw [h1, h2] at this
  simp [sameBlock] at this

/-- two that may come up in either order, the first of them ahead -/
theorem Run.pair (R : Run P hk n N ops l rs) (hC : Chain rs e h e' h') {l1 l2 l3 : List Rec} {p q : Rec} (hs : rs = l1 ++ p :: (l2 ++ q :: l3)) (hf : Free ops l p q) :
    Oper.apart ops p.x.o q.x.o = true ∧ Oper.apart ops q.x.o p.x.o = true ∧ (∀ b, q.ch b → ¬ Needs p.e p.x.c b) ∧ (∀ b, p.ch b → wantedC q.e q.co.g = true → ¬ Needs q.e q.x.c b) ∧ (∀ b, q.ch b → q.x.c.cls = .call → p.x.c.cls = .pure) := by
  have hp := pairs_spec _ R.pairs (l1.map (·.x)) p.x ((l2 ++ q :: l3).map (·.x)) (by rw [hs]; simp) q.x (by simp)
  rcases hp with hp | ⟨a1, a2, a3⟩
  · rw [hf.1] at hp; simp at hp
  · have okp := R.ok p (by rw [hs]; simp)
    have okq := R.ok q (by rw [hs]; simp)
    have hne : q.x.i ≠ p.x.i := (R.dist hs).2.1 q (by simp)
    have hpm : p.x ∈ rs.map (·.x) := List.mem_map.2 ⟨p, by rw [hs]; simp, rfl⟩
    have hqm : q.x ∈ rs.map (·.x) := List.mem_map.2 ⟨q, by rw [hs]; simp, rfl⟩
    have hav := R.av (l1 ++ p :: l2) q l3 (by rw [hs]; simp)
    have key : p.x.c.cls.clash q.x.c.cls = true → wantedC q.e q.co.g = true → ∀ b, touched p.e p.x.c b → touched q.e q.x.c b → False := by
      intro hcl hw b ⟨o, ho, hob⟩ ⟨y, hy, hyb⟩
      obtain ⟨s1, s2⟩ := avoid_spec _ _ _ hav (l2.map (·.x)).reverse p.x (l1.map (·.x)).reverse (by simp) hcl hf.1 o ho
      have hev : o.ev q.e = o.ev p.e := by
        cases o with
        | k c => rfl
        | t m =>
          obtain ⟨e1, h1, c1, c2⟩ := chain_split (hs ▸ hC)
          obtain ⟨rfl, rfl, c3⟩ := c2
          obtain ⟨e2, h2, c4, c5⟩ := chain_split c3
          obtain ⟨rfl, rfl, _⟩ := c5
          show q.e m = p.e m
          rw [chain_put c4 m fun z hz => s2 z.x (.inr (.inl (by simp; exact ⟨z, hz, rfl⟩))) m rfl]
          simp only [Env.put]
          rw [if_neg (s2 p.x (.inl rfl) m rfl)]
      rcases okq.run with ⟨_, _, hok, _⟩ | ⟨hw', _⟩
      · exact same_block hok s1 (by rw [okq.co]; exact hy) (by rw [hev]; exact hob) hyb
      · rw [hw] at hw'; simp at hw'
    have callq : ∀ b, q.ch b → q.x.c.cls = .call → p.x.c.cls = .pure := by
      intro b hb hq
      by_cases hpure : p.x.c.cls = .pure
      · exact hpure
      · exact absurd hb (not_ch_ext (ok_ext okq (needChk_of hq hpm hne.symm hpure hf.2 hf.1)) b)
    refine ⟨a1, a2, ?_, ?_, callq⟩
    · intro b hb hN
      obtain ⟨c1, c2, c3⟩ := ch_cls okq hb
      rcases c1 with c1 | c1
      · cases hcl : p.x.c.cls with
        | pure => exact needs_nil (.inl hcl) hN
        | alloc => exact needs_nil (.inr hcl) hN
        | call => rw [hcl, c1] at a3; simp [Cls.apart] at a3
        | load => exact key (by rw [hcl, c1]; rfl) c3 b (by simpa [Needs, hcl] using hN) (by simpa [Needs, c1] using c2)
        | mod => exact key (by rw [hcl, c1]; rfl) c3 b (by simpa [Needs, hcl] using hN) (by simpa [Needs, c1] using c2)
      · exact needs_nil (.inl (callq b hb c1)) hN
    · intro b hb hw hN
      obtain ⟨c1, c2, c3⟩ := ch_cls okp hb
      rcases c1 with c1 | c1
      · cases hcl : q.x.c.cls with
        | pure => exact needs_nil (.inl hcl) hN
        | alloc => exact needs_nil (.inr hcl) hN
        | call => rw [hcl, c1] at a3; simp [Cls.apart] at a3
        | load => exact key (by rw [hcl, c1]; rfl) hw b (by simpa [Needs, c1] using c2) (by simpa [Needs, hcl] using hN)
        | mod => exact key (by rw [hcl, c1]; rfl) hw b (by simpa [Needs, c1] using c2) (by simpa [Needs, hcl] using hN)
      · by_cases hpure : q.x.c.cls = .pure
        · exact needs_nil (.inl hpure) hN
        · exact not_ch_ext (ok_ext okp (needChk_of c1 hqm hne hpure hf.1 hf.2)) b hb

end
end Go.Cn
