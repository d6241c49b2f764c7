/- Regions that draw their order: what the static look gives. -/
import Derived.Test.YtlmlpgmpdaepkaaDoorCnRun2
set_option linter.unusedSimpArgs false
set_option linter.unusedVariables false
set_option linter.unusedSectionVars false
namespace Go.Cn

/-! ### what operations turn -/

theorem exec_same {e : Env} {h h' : Heap} {c : COp} {v : CV} (hc : c.cls = .pure ∨ c.cls = .load) (hx : exec e h c = some (v, h')) : h' = h := by
  cases c <;> first | (rcases hc with hc | hc <;> simp [COp.cls] at hc; done) | skip
  all_goals
    simp only [exec] at hx
    (try simp only [Option.map_eq_some_iff, Prod.mk.injEq] at hx)
    repeat' split at hx
    all_goals first
      | (simp at hx; done)
      | (simp at hx; exact hx.2.symm)
      | (obtain ⟨_, _, _, rfl⟩ := hx; rfl)
      | (simp only [Option.map_eq_some_iff, Prod.mk.injEq] at hx; obtain ⟨_, _, _, rfl⟩ := hx; rfl)

theorem exec_alloc {e : Env} {h h' : Heap} {c : COp} {v : CV} (hc : c.cls = .alloc) (hx : exec e h c = some (v, h')) : ∃ blk, h' = h ++ [blk] := by
  cases c <;> first | (simp [COp.cls] at hc; done) | skip
  all_goals
    simp only [exec] at hx
    repeat' split at hx
    all_goals first
      | (simp at hx; done)
      | (simp at hx; exact ⟨_, hx.2.symm⟩)

theorem stc_change {h h' : Heap} {b off c : Nat} {cs : List CV} (hs : h.stc b off cs = some h') (hne : h'[c]? ≠ h[c]?) : c = b := by
  unfold Heap.stc at hs
  split at hs
  · split at hs
    · simp at hs
      subst hs
      by_cases e : c = b
      · exact e
      · rw [List.getElem?_set_ne (Ne.symm e)] at hne; exact absurd rfl hne
    · simp at hs
  · simp at hs

theorem kill_change {h h' : Heap} {b c : Nat} (hs : h.kill b = some h') (hne : h'[c]? ≠ h[c]?) : c = b := by
  unfold Heap.kill at hs
  split at hs
  · split at hs
    · simp at hs
      subst hs
      by_cases e : c = b
      · exact e
      · rw [List.getElem?_set_ne (Ne.symm e)] at hne; exact absurd rfl hne
    · simp at hs
  · simp at hs

theorem append_change {h h' : Heap} {t : TypeId} {k by' : Nat} {st : Bool} {s x v : CV} {c : Nat} (ha : append h t k by' st s x = some (v, h')) (hlt : c < h.length) (hne : h'[c]? ≠ h[c]?) : blockOf s = some c := by
  have hpush : ∀ (l : Heap) (blk : Blk), l.length = h.length → (l ++ [blk])[c]? = l[c]? := fun l blk hl => List.getElem?_append_left (by omega)
  unfold append at ha
  split at ha
  · simp at ha
  · split at ha
    · split at ha
      · simp at ha; rw [ha.2] at hne; exact absurd rfl hne
      · split at ha
        · simp at ha; rw [← ha.2, hpush h _ rfl] at hne; exact absurd rfl hne
        · simp at ha
    · split at ha
      · simp at ha
      · split at ha
        · simp at ha; rw [ha.2] at hne; exact absurd rfl hne
        · split at ha
          · simp only [Option.map_eq_some_iff, Prod.mk.injEq] at ha
            obtain ⟨h1, hs, _, rfl⟩ := ha
            rw [stc_change hs hne]; rfl
          · split at ha
            · split at ha
              · simp at ha
              · split at ha
                · simp at ha; rw [← ha.2, hpush h _ rfl] at hne; exact absurd rfl hne
                · simp only [Option.map_eq_some_iff, Prod.mk.injEq] at ha
                  obtain ⟨h1, hs, _, rfl⟩ := ha
                  rw [hpush h1 _ (kill_len hs)] at hne
                  rw [kill_change hs hne]; rfl
            · simp at ha
    · simp at ha

theorem exec_mod {e : Env} {h h' : Heap} {c : COp} {v : CV} {b : Nat} (hc : c.cls = .mod) (hx : exec e h c = some (v, h')) (hlt : b < h.length) (hne : h'[b]? ≠ h[b]?) : touched e c b := by
  cases c <;> first | (simp [COp.cls] at hc; done) | skip
  case store n a x =>
    simp only [exec] at hx
    split at hx
    · rename_i b0 off hb0
      split at hx
      · simp only [Option.map_eq_some_iff, Prod.mk.injEq] at hx
        obtain ⟨h1, hs, _, rfl⟩ := hx
        exact ⟨a, by simp [COp.addrs], by rw [hb0, stc_change hs hne]; rfl⟩
      · simp at hx
    · simp at hx
  case mark x =>
    simp only [exec] at hx
    repeat' split at hx
    all_goals first
      | (simp at hx; done)
      | (simp at hx; rw [hx.2] at hne; exact absurd rfl hne)
  case app t k by' st s x =>
    simp only [exec] at hx
    exact ⟨s, by simp [COp.addrs], append_change hx hlt hne⟩
  case next x =>
    simp only [exec] at hx
    split at hx
    · rename_i b0 hb0
      split at hx
      · split at hx
        · simp at hx
          obtain ⟨_, rfl⟩ := hx
          refine ⟨x, by simp [COp.addrs], ?_⟩
          rw [hb0]
          by_cases e : b = b0
          · rw [e]; rfl
          · rw [List.getElem?_set_ne (Ne.symm e)] at hne; exact absurd rfl hne
        · split at hx
          · simp at hx; rw [hx.2] at hne; exact absurd rfl hne
          · simp at hx
      · simp at hx
    · simp at hx

/-! ### what stands ahead -/

theorem lookup_mem {tab : List (Nat × Nat)} {i m : Nat} (h : tab.lookup i = some m) : (i, m) ∈ tab := by
  induction tab with
  | nil => simp at h
  | cons x tab ih =>
    obtain ⟨j, k⟩ := x
    rw [List.lookup_cons] at h
    split at h
    · rename_i hj
      simp at hj h
      subst hj h
      simp
    · exact List.mem_cons_of_mem _ (ih h)

/-- a set that holds with each operation those that it waits for -/
def Closed (ops : Array Oper) (listed : Nat → Prop) : Prop := ∀ i o, ops[i]? = some o → listed i → ∀ e ∈ o.after, Region.binds .any e = true → listed e.on

theorem anc_fold {listed : Nat → Prop} {tab : List (Nat × Nat)} (ih : ∀ i m, (i, m) ∈ tab → listed i → ∀ j, Nat.testBit m j = true → listed j) : ∀ (es : List Edge) (m0 : Nat), (∀ j, Nat.testBit m0 j = true → listed j) →
    (∀ e ∈ es, Region.binds .any e = true → listed e.on) → ∀ j, Nat.testBit (es.foldl (fun m e => if Region.binds .any e then m ||| (1 <<< e.on) ||| ((tab.lookup e.on).getD 0) else m) m0) j = true → listed j := by
  intro es
  induction es with
  | nil => intro m0 h0 _ j hj; exact h0 j hj
  | cons e es ihe =>
    intro m0 h0 hes j hj
    rw [List.foldl_cons] at hj
    refine ihe _ ?_ (fun e' he' => hes e' (by simp [he'])) j hj
    intro j' hj'
    split at hj'
    · rename_i hb
      rw [Nat.testBit_or, Nat.testBit_or, Bool.or_eq_true, Bool.or_eq_true] at hj'
      have hon := hes e (by simp) hb
      rcases hj' with (h1 | h1) | h1
      · exact h0 j' h1
      · rw [Nat.one_shiftLeft, Nat.testBit_two_pow] at h1
        have : e.on = j' := by simpa using h1
        exact this ▸ hon
      · cases hl : tab.lookup e.on with
        | none => rw [hl] at h1; simp at h1
        | some m => rw [hl] at h1; exact ih e.on m (lookup_mem hl) hon j' h1
    · exact h0 j' hj'

theorem anc_closed {ops : Array Oper} {listed : Nat → Prop} (hC : Closed ops listed) : ∀ (l : List Nat) (tab : List (Nat × Nat)), (∀ i m, (i, m) ∈ tab → listed i → ∀ j, Nat.testBit m j = true → listed j) →
    ∀ i m, (i, m) ∈ l.foldl (fun tab i => match ops[i]? with | some o => (i, ancOf tab o) :: tab | none => tab) tab → listed i → ∀ j, Nat.testBit m j = true → listed j := by
  intro l
  induction l with
  | nil => intro tab h; exact h
  | cons k l ih =>
    intro tab h
    rw [List.foldl_cons]
    refine ih _ ?_
    split
    · rename_i o ho
      intro i m him hi j hj
      rcases List.mem_cons.1 him with heq | him
      · simp only [Prod.mk.injEq] at heq
        obtain ⟨rfl, rfl⟩ := heq
        refine anc_fold h o.after.toList 0 (fun j hj => by simp at hj) (fun e he hb => hC i o ho hi e (by simpa using he) hb) j hj
      · exact h i m him hi j hj
    · exact h

/-- with an operation all that stand ahead of it -/
theorem anc_listed {ops : Array Oper} {listed : Nat → Prop} (hC : Closed ops listed) (l : List Nat) {i j : Nat} (hi : listed i) (hj : Nat.testBit (((ancTab ops l).lookup i).getD 0) j = true) : listed j := by
  cases hl : (ancTab ops l).lookup i with
  | none => rw [hl] at hj; simp at hj
  | some m =>
    rw [hl] at hj
    exact anc_closed hC l [] (fun _ _ h => by simp at h) i m (lookup_mem hl) hi j hj

/-- and of an operation that may come up now -/
theorem anc_ready {ops : Array Oper} {listed : Nat → Prop} (hC : Closed ops listed) (l : List Nat) {i j : Nat} {o : Oper} (ho : ops[i]? = some o) (hr : ∀ e ∈ o.after, Region.binds .any e = true → listed e.on)
    (hj : Nat.testBit (((ancTab ops l).lookup i).getD 0) j = true) (hij : j ≠ i) : listed j := by
  have hC' : Closed ops (fun k => listed k ∨ k = i) := by
    intro k o' ho' hk e he hb
    rcases hk with hk | rfl
    · exact .inl (hC k o' ho' hk e he hb)
    · rw [ho] at ho'; simp at ho'; subst ho'; exact .inl (hr e he hb)
  rcases anc_listed hC' l (.inr rfl) hj with h | h
  · exact h
  · exact absurd h hij

end Go.Cn
