/- Regions that draw their order: whatever order is drawn, the canonical run tells what comes of it. -/
import Derived.Test.YtlmlpgmpdaepkaaDoorCnDraw2
set_option linter.unusedSimpArgs false
set_option linter.unusedVariables false
set_option linter.unusedSectionVars false
namespace Go.Cn

noncomputable def foldE (p : Nat → Bool) : List Rec → Env → Env
  | [], e => e
  | r :: rs, e => foldE p rs (if p r.x.i then e.put r.x.o.dst r.v else e)

noncomputable def foldK (p : Nat → Bool) : List Rec → View → View
  | [], K => K
  | r :: rs, K => foldK p rs (if p r.x.i then updK K r.h r.h1 else K)

theorem foldE_app {p : Nat → Bool} {l1 l2 : List Rec} {e : Env} : foldE p (l1 ++ l2) e = foldE p l2 (foldE p l1 e) := by
  induction l1 generalizing e with
  | nil => rfl
  | cons r l1 ih => exact ih
theorem foldK_app {p : Nat → Bool} {l1 l2 : List Rec} {K : View} : foldK p (l1 ++ l2) K = foldK p l2 (foldK p l1 K) := by
  induction l1 generalizing K with
  | nil => rfl
  | cons r l1 ih => exact ih

theorem foldE_at {p q : Nat → Bool} {t : Nat} : ∀ {rs : List Rec} {e e' : Env}, e t = e' t → (∀ r ∈ rs, p r.x.i ≠ q r.x.i → r.x.o.dst ≠ some t) → foldE p rs e t = foldE q rs e' t := by
  intro rs
  induction rs with
  | nil => intro e e' h _; exact h
  | cons r rs ih =>
    intro e e' h hd
    refine ih ?_ fun r' hr' => hd r' (by simp [hr'])
    by_cases hpq : p r.x.i = q r.x.i
    · rw [hpq]
      split
      · simp only [Env.put]; split <;> first | rfl | exact h
      · exact h
    · have := hd r (by simp) hpq
      cases p r.x.i <;> cases q r.x.i <;> simp [Env.put, this] <;> exact h

theorem foldE_no : ∀ {rs : List Rec} {e : Env}, foldE (fun _ => false) rs e = e := by
  intro rs
  induction rs with
  | nil => intro e; rfl
  | cons r rs ih => intro e; simp only [foldE]; rw [ih]; rfl

theorem foldE_all {rs : List Rec} : ∀ {e e' : Env} {h h' : Heap} {p : Nat → Bool}, (∀ r ∈ rs, p r.x.i = true) → Chain rs e h e' h' → foldE p rs e = e' := by
  induction rs with
  | nil => intro e e' h h' p _ hc; exact hc.1
  | cons r rs ih =>
    intro e e' h h' p hp hc
    simp only [foldE]
    rw [hp r (by simp), if_pos rfl]
    exact ih (fun q hq => hp q (by simp [hq])) hc.2.2

theorem foldE_put {p : Nat → Bool} {d : Option Nat} {v : CV} : ∀ {rs : List Rec} {e : Env}, (∀ r ∈ rs, p r.x.i = true → ∀ t, d = some t → r.x.o.dst ≠ some t) → foldE p rs (e.put d v) = (foldE p rs e).put d v := by
  intro rs
  induction rs with
  | nil => intro e _; rfl
  | cons r rs ih =>
    intro e hd
    simp only [foldE]
    split
    · rename_i hp
      rw [← ih fun q hq => hd q (by simp [hq])]
      congr 1
      funext t
      simp only [Env.put]
      have := hd r (by simp) hp t
      by_cases h1 : d = some t
      · rw [if_neg (this h1), if_pos h1, if_pos h1]
      · simp [h1]
    · exact ih fun q hq => hd q (by simp [hq])

theorem foldE_same {p q : Nat → Bool} {rs : List Rec} {e : Env} (h : ∀ r ∈ rs, p r.x.i = q r.x.i) : foldE p rs e = foldE q rs e := by
  funext t
  exact foldE_at rfl fun r hr hne => absurd (h r hr) hne

theorem foldK_same {p q : Nat → Bool} : ∀ {rs : List Rec} {K : View}, (∀ r ∈ rs, p r.x.i = q r.x.i) → foldK p rs K = foldK q rs K := by
  intro rs
  induction rs with
  | nil => intro K _; rfl
  | cons r rs ih => intro K h; simp only [foldK]; rw [h r (by simp)]; exact ih fun q hq => h q (by simp [hq])

theorem chain_len {rs : List Rec} (hl : ∀ r ∈ rs, r.h.length ≤ r.h1.length) : ∀ {e e' : Env} {h h' : Heap}, Chain rs e h e' h' → h.length ≤ h'.length ∧ ∀ r ∈ rs, h.length ≤ r.h.length ∧ r.h1.length ≤ h'.length := by
  induction rs with
  | nil => intro e e' h h' hc; rw [hc.2]; exact ⟨Nat.le_refl _, fun r hr => by simp at hr⟩
  | cons r rs ih =>
    intro e e' h h' ⟨c1, c2, c3⟩
    obtain ⟨i1, i2⟩ := ih (fun q hq => hl q (by simp [hq])) c3
    have := hl r (by simp)
    subst c2
    refine ⟨by omega, fun q hq => ?_⟩
    rcases List.mem_cons.1 hq with rfl | hq
    · exact ⟨Nat.le_refl _, i1⟩
    · have := i2 q hq; omega

theorem foldK_all {rs : List Rec} (hl : ∀ r ∈ rs, r.h.length ≤ r.h1.length) : ∀ {e e' : Env} {h h' : Heap} {p : Nat → Bool} {K : View}, (∀ r ∈ rs, p r.x.i = true) → Chain rs e h e' h' → Agree K h All → foldK p rs K = updK K h h' := by
  induction rs with
  | nil => intro e e' h h' p K _ hc _; rw [hc.2, updK_self]; rfl
  | cons r rs ih =>
    intro e e' h h' p K hp ⟨c1, c2, c3⟩ hA
    simp only [foldK]
    rw [hp r (by simp), if_pos rfl]
    subst c2
    have l1 := hl r (by simp)
    have l2 := (chain_len (fun q hq => hl q (by simp [hq])) c3).1
    rw [ih (fun q hq => hl q (by simp [hq])) (fun q hq => hp q (by simp [hq])) c3 (agree_upd hA), updK_trans hA l1 l2]

/-- blocks that none of these made are not there -/
theorem foldK_none {p : Nat → Bool} {b : Nat} : ∀ {rs : List Rec} {K : View}, K b = none → (∀ r ∈ rs, p r.x.i = true → ¬ (r.h.length ≤ b ∧ b < r.h1.length)) → foldK p rs K b = none := by
  intro rs
  induction rs with
  | nil => intro K h _; exact h
  | cons r rs ih =>
    intro K h hn
    refine ih ?_ fun q hq => hn q (by simp [hq])
    split
    · rename_i hp
      have := hn r (by simp) hp
      by_cases h1 : b < r.h.length
      · exact updK_none h1 h
      · rw [updK_out h1 (by omega)]; exact h
    · exact h

theorem foldK_some {p : Nat → Bool} {b : Nat} : ∀ {rs : List Rec} {K : View}, K b ≠ none → (∀ r ∈ rs, r.h.length ≤ r.h1.length) → foldK p rs K b ≠ none := by
  intro rs
  induction rs with
  | nil => intro K h _; exact h
  | cons r rs ih =>
    intro K h hl
    refine ih ?_ fun q hq => hl q (by simp [hq])
    split
    · have := hl r (by simp)
      unfold updK
      split
      · split
        · exact h
        · rw [List.getElem?_eq_getElem (by omega)]; simp
      · split
        · rename_i h2; rw [List.getElem?_eq_getElem h2]; simp
        · exact h
    · exact h

/-- what the listed ones leave at a block, beside what all ahead leave there: a chain -/
theorem foldK_ahead {p : Nat → Bool} {b : Nat} (rs : List Rec) : ∀ {e e' : Env} {h h' : Heap} {K K' : View}, (∀ r ∈ rs, r.h.length ≤ r.h1.length) → Chain rs e h e' h' → (K b = none ∨ K b = K' b) → (h.length ≤ b → K b = none) →
    (∀ r ∈ rs, p r.x.i = false → ¬ r.ch b) → (foldK p rs K b = none ∨ foldK p rs K b = foldK (fun _ => true) rs K' b) := by
  induction rs with
  | nil => intro e e' h h' K K' _ _ h1 _ _; exact h1
  | cons r rs ih =>
    intro e e' h h' K K' hl ⟨c1, c2, c3⟩ h1 h2 h3
    simp only [foldK, if_true]
    subst c2
    have hl' := hl r (by simp)
    refine ih (fun q hq => hl q (by simp [hq])) c3 ?_ ?_ fun q hq => h3 q (by simp [hq])
    · cases hp : p r.x.i with
      | true =>
        simp only [if_true]
        by_cases hb : b < r.h.length
        · rcases h1 with h1 | h1
          · exact .inl (updK_none hb h1)
          · by_cases hn : K b = none
            · exact .inl (updK_none hb hn)
            · right
              by_cases he : r.h1[b]? = r.h[b]?
              · rw [updK_eq hb he, updK_eq hb he, h1]
              · rw [updK_ch hb hn he, updK_ch hb (by rw [← h1]; exact hn) he]
        · by_cases hb1 : b < r.h1.length
          · right; rw [updK_new hb hb1, updK_new hb hb1]
          · rw [updK_out hb hb1, updK_out hb hb1]; exact h1
      | false =>
        simp only [Bool.false_eq_true, if_false]
        by_cases hb : b < r.h.length
        · have hn := h3 r (by simp) hp
          have he : r.h1[b]? = r.h[b]? := by
            by_cases he : r.h1[b]? = r.h[b]?
            · exact he
            · exact absurd ⟨hb, he⟩ hn
          rw [updK_eq hb he]; exact h1
        · exact .inl (h2 (by omega))
    · intro hb
      cases hp : p r.x.i with
      | true =>
        simp only [if_true]
        rw [updK_out (by omega) (by omega)]; exact h2 (by omega)
      | false => simp only [Bool.false_eq_true, if_false]; exact h2 (by omega)

/-- those behind do not turn a block that they may not -/
theorem foldK_behind {p : Nat → Bool} {b : Nat} : ∀ {rs : List Rec} {K : View}, (∀ r ∈ rs, b < r.h.length) → (∀ r ∈ rs, p r.x.i = true → ¬ r.ch b) → foldK p rs K b = K b := by
  intro rs
  induction rs with
  | nil => intro K _ _; rfl
  | cons r rs ih =>
    intro K h1 h2
    simp only [foldK]
    rw [ih (fun q hq => h1 q (by simp [hq])) (fun q hq => h2 q (by simp [hq]))]
    split
    · rename_i hp
      refine updK_eq (h1 r (by simp)) ?_
      by_cases he : r.h1[b]? = r.h[b]?
      · exact he
      · exact absurd ⟨h1 r (by simp), he⟩ (h2 r (by simp) hp)
    · rfl

theorem updK_congr {K K' : View} {g g1 : Heap} {b : Nat} (h : K b = K' b) : updK K g g1 b = updK K' g g1 b := by
  unfold updK
  rw [h]

theorem updK_comm {K : View} {h h1 g g1 : Heap} (l1 : h.length ≤ h1.length) (l2 : h1.length ≤ g.length)
    (hd : ∀ b, b < h.length → h1[b]? ≠ h[b]? → g1[b]? = g[b]?) (hn : ∀ b, h.length ≤ b → b < h1.length → g1[b]? = g[b]?) : updK (updK K h h1) g g1 = updK (updK K g g1) h h1 := by
  funext b
  by_cases hb : b < h.length
  · by_cases he : h1[b]? = h[b]?
    · rw [updK_eq (K := updK K g g1) hb he]
      by_cases hg : g1[b]? = g[b]?
      · rw [updK_eq (by omega) hg, updK_eq (by omega) hg, updK_eq hb he]
      · by_cases hK : K b = none
        · rw [updK_none (by omega) (updK_none hb hK), updK_none (by omega) hK]
        · rw [updK_ch (by omega) (by rw [updK_eq hb he]; exact hK) hg, updK_ch (by omega) hK hg]
    · have hg := hd b hb he
      rw [updK_eq (by omega) hg]
      by_cases hK : K b = none
      · rw [updK_none hb hK, updK_none hb (updK_none (by omega) hK)]
      · rw [updK_ch hb hK he, updK_ch hb (by rw [updK_eq (by omega) hg]; exact hK) he]
  · by_cases hb1 : b < h1.length
    · rw [updK_eq (by omega) (hn b (by omega) hb1), updK_new hb hb1, updK_new hb hb1]
    · rw [updK_out (K := updK K g g1) hb hb1]
      exact updK_congr (updK_out hb hb1)

theorem foldK_comm {p : Nat → Bool} {h h1 : Heap} (l1 : h.length ≤ h1.length) : ∀ {rs : List Rec} {K : View}, (∀ r ∈ rs, h1.length ≤ r.h.length ∧ r.h.length ≤ r.h1.length) →
    (∀ r ∈ rs, p r.x.i = true → (∀ b, b < h.length → h1[b]? ≠ h[b]? → ¬ r.ch b) ∧ ∀ b, h.length ≤ b → b < h1.length → ¬ r.ch b) → foldK p rs (updK K h h1) = updK (foldK p rs K) h h1 := by
  intro rs
  induction rs with
  | nil => intro K _ _; rfl
  | cons r rs ih =>
    intro K hl hp
    simp only [foldK]
    split
    · rename_i hpr
      obtain ⟨p1, p2⟩ := hp r (by simp) hpr
      obtain ⟨l2, _⟩ := hl r (by simp)
      rw [updK_comm l1 l2 ?_ ?_]
      · exact ih (fun q hq => hl q (by simp [hq])) fun q hq => hp q (by simp [hq])
      · intro b hb he
        by_cases hg : r.h1[b]? = r.h[b]?
        · exact hg
        · exact absurd ⟨by omega, hg⟩ (p1 b hb he)
      · intro b hb he
        by_cases hg : r.h1[b]? = r.h[b]?
        · exact hg
        · exact absurd ⟨by omega, hg⟩ (p2 b hb he)
    · exact ih (fun q hq => hl q (by simp [hq])) fun q hq => hp q (by simp [hq])

/-! ### operands -/

theorem guard_tmp {ops : Array Oper} {o : Oper} {t : Nat} {b : Bool} (hg : guardOf ops o = some (some (t, b))) : t ∈ o.looksAt ops := by
  unfold guardOf at hg
  split at hg
  · simp at hg
  · rename_i j want hn
    split at hg
    · rename_i t' ht
      simp at hg
      obtain ⟨rfl, rfl⟩ := hg
      refine List.mem_append_right _ ?_
      rw [hn]
      simp only [ht]
      simp
    · simp at hg

theorem wantedC_same {e e' : Env} {ops : Array Oper} {o : Oper} {g : Option (Nat × Bool)} (hg : guardOf ops o = some g) (h : ∀ t ∈ o.looksAt ops, e t = e' t) : wantedC e g = wantedC e' g := by
  cases g with
  | none => rfl
  | some g =>
    obtain ⟨t, b⟩ := g
    simp only [wantedC]
    rw [h t (guard_tmp hg)]

theorem opsR_same {μ : Mp} {N : Nat} {e e' : Env} {a : Act} {ops : Array Oper} {o : Oper} (hE : EnvR μ N e a) (h : ∀ t ∈ o.looksAt ops, e t = e' t) : OpsR μ e' a o := by
  intro x hx x' hx'
  have := opsR_of_env (o := o) hE x hx x' hx'
  cases x with
  | tmp t =>
    simp [opdOf] at hx'; subst hx'
    have ht : t ∈ o.looksAt ops := List.mem_append_left _ (List.mem_filterMap.2 ⟨.tmp t, by simpa using hx, rfl⟩)
    simp only [Opd.ev] at this ⊢
    rw [← h t ht]; exact this
  | const v =>
    simp only [opdOf, Option.map_eq_some_iff] at hx'
    obtain ⟨c, _, rfl⟩ := hx'
    exact this
  | global g => simp [opdOf] at hx'
  | func f => simp [opdOf] at hx'; subst hx'; exact this

theorem args_mem {l : List Operand} {l' : List Opd} (h : l.mapM opdOf = some l') {x' : Opd} (hx : x' ∈ l') : ∃ x ∈ l, opdOf x = some x' := by
  induction l generalizing l' with
  | nil => simp at h; subst h; simp at hx
  | cons a l ih =>
    rw [List.mapM_cons] at h
    simp only [Option.bind_eq_bind, Option.bind_eq_some_iff, Option.pure_def, Option.some.injEq] at h
    obtain ⟨y, hy, l'', hl, rfl⟩ := h
    rcases List.mem_cons.1 hx with rfl | hx
    · exact ⟨a, by simp, hy⟩
    · obtain ⟨x, m, e⟩ := ih hl hx
      exact ⟨x, by simp [m], e⟩

theorem addrs_ops {P : Program} {o : Oper} {c : COp} (hc : compOp P o = some c) {x' : Opd} (hx : x' ∈ c.addrs) : ∃ x ∈ o.op.operands, opdOf x = some x' := by
  replace hc := comp_cases hc
  rcases hc with hc | rfl
  case inr => simp [COp.addrs] at hx
  unfold compOp0 at hc
  cases hop : o.op with
  | call cl =>
    rw [hop] at hc
    simp only at hc
    split at hc
    · simp at hc
    · rename_i args hargs
      split at hc
      · rename_i b hb
        have key : ∀ y ∈ args, ∃ x ∈ (Op.call cl).operands, opdOf x = some y := fun y hy => by
          obtain ⟨x, m, e⟩ := args_mem hargs hy
          exact ⟨x, by simp [Op.operands, Call.operands, hb]; simpa using m, e⟩
        unfold compBuiltin at hc
        repeat' split at hc
        all_goals first
          | (simp at hc; done)
          | (simp at hc; subst hc; simp [COp.addrs] at hx; done)
          | (simp at hc; subst hc; simp only [COp.addrs] at hx; exact key x' (by simpa using hx))
      · simp at hc; subst hc; simp [COp.addrs] at hx
      · simp only [Option.map_eq_some_iff] at hc
        obtain ⟨_, _, rfl⟩ := hc
        simp [COp.addrs] at hx
      · simp at hc
  | binOp op t x y yt =>
    rw [hop] at hc
    simp only at hc
    rw [addrs_nil (.inl (compBin_pure hc))] at hx
    simp at hx
  | convert s d x =>
    rw [hop] at hc
    simp only at hc
    unfold compConv at hc
    simp only [Option.bind_eq_some_iff] at hc
    obtain ⟨y, hy, hc⟩ := hc
    repeat' split at hc
    all_goals first
      | (simp at hc; done)
      | (simp at hc; subst hc; simp [COp.addrs] at hx; done)
      | (simp at hc; subst hc; simp only [COp.addrs, List.mem_singleton] at hx; subst hx; exact ⟨x, by simp [Op.operands], hy⟩)
  | makeFunc fn first caps =>
    rw [hop] at hc
    cases fn <;> simp only at hc <;> try (simp at hc; done)
    split at hc
    · simp only [Option.map_eq_some_iff] at hc
      obtain ⟨_, _, rfl⟩ := hc
      simp [COp.addrs] at hx
    · simp at hc
  | next x b =>
    rw [hop] at hc
    cases b
    · simp at hc
    · simp only [Option.map_eq_some_iff] at hc
      obtain ⟨y, hy, rfl⟩ := hc
      simp only [COp.addrs, List.mem_singleton] at hx; subst hx; exact ⟨_, by simp [Op.operands], hy⟩
  | _ =>
    rw [hop] at hc
    simp only at hc
    repeat' split at hc
    all_goals first
      | (simp at hc; done)
      | (simp at hc; subst hc; simp [COp.addrs] at hx; done)
      | (simp only [Option.map_eq_some_iff] at hc
         obtain ⟨y, hy, rfl⟩ := hc
         first
           | (simp [COp.addrs] at hx; done)
           | (simp only [COp.addrs, List.mem_singleton] at hx; subst hx; exact ⟨_, by simp [Op.operands], hy⟩))
      | (simp at hc; subst hc; simp only [COp.addrs, List.mem_singleton] at hx; subst hx; rename_i hy; exact ⟨_, by simp [Op.operands], hy⟩)
      | (simp at hc; subst hc; simp only [COp.addrs, List.mem_singleton] at hx; subst hx; refine ⟨_, ?_, ‹opdOf _ = some x'›⟩; simp [Op.operands])

end Go.Cn
