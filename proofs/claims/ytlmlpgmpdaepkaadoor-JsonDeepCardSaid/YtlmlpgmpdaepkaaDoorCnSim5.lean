/- What reads, writes and makes memory: the relation kept. -/
import Derived.Test.YtlmlpgmpdaepkaaDoorCnSim4
set_option linter.unusedSimpArgs false
set_option linter.unusedVariables false
set_option linter.unusedSectionVars false
namespace Go.Cn

open Classical in
noncomputable def View.set (K : View) (n : Nat) (blk : Blk) : View := fun b => if b = n then some blk else K b
open Classical in
noncomputable def Mp.set (μ : Mp) (n : Nat) (pl : Pl) : Mp := fun b => if b = n then some pl else μ b

theorem View.set_same (K : View) (n : Nat) (blk : Blk) : K.set n blk n = some blk := by simp [View.set]
theorem View.set_ne {K : View} {n b : Nat} {blk : Blk} (h : b ≠ n) : K.set n blk b = K b := by simp [View.set, h]
theorem Mp.set_same (μ : Mp) (n : Nat) (pl : Pl) : μ.set n pl n = some pl := by simp [Mp.set]
theorem Mp.set_ne {μ : Mp} {n b : Nat} {pl : Pl} (h : b ≠ n) : μ.set n pl b = μ b := by simp [Mp.set, h]

theorem Mp.le_set {μ : Mp} {n : Nat} {pl : Pl} (h : μ n = none) : μ.le (μ.set n pl) := by
  intro b q hb
  by_cases e : b = n
  · subst e; rw [h] at hb; simp at hb
  · rw [Mp.set_ne e]; exact hb

theorem updK_self (K : View) (h : Heap) : updK K h h = K := by
  funext b
  unfold updK
  split
  · simp
  · rfl

theorem updK_push {K : View} {h : Heap} {blk : Blk} : updK K h (h ++ [blk]) = K.set h.length blk := by
  funext b
  unfold updK View.set
  by_cases hb : b < h.length
  · rw [if_pos hb, if_pos (.inr (List.getElem?_append_left hb)), if_neg (by omega)]
  · rw [if_neg hb]
    by_cases hb2 : b = h.length
    · subst hb2; simp
    · rw [if_neg (by simp; omega), if_neg hb2]

theorem updK_set {K : View} {h : Heap} {b : Nat} {blk blk' : Blk} (hb : h[b]? = some blk) (hK : K b = some blk) : updK K h (h.set b blk') = K.set b blk' := by
  funext c
  have hlt : b < h.length := (List.getElem?_eq_some_iff.1 hb).1
  unfold updK View.set
  by_cases hc : c < h.length
  · rw [if_pos hc]
    by_cases e : c = b
    · subst e
      rw [if_pos rfl, List.getElem?_set_self hlt]
      split
      · rename_i hh
        rcases hh with hh | hh
        · rw [hK] at hh; simp at hh
        · rw [hK, ← hb, ← hh]
      · rfl
    · rw [if_neg e, List.getElem?_set_ne (Ne.symm e), if_pos (.inr rfl)]
  · rw [if_neg hc, if_neg (by simpa using hc), if_neg (by omega)]

theorem updK_set_push {K : View} {h : Heap} {b : Nat} {blk blk' nw : Blk} (hb : h[b]? = some blk) (hK : K b = some blk) : updK K h (h.set b blk' ++ [nw]) = (K.set b blk').set h.length nw := by
  funext c
  have hlt : b < h.length := (List.getElem?_eq_some_iff.1 hb).1
  have h1 := congrFun (updK_set (blk' := blk') hb hK) c
  unfold updK at h1 ⊢
  by_cases hc : c < h.length
  · rw [if_pos hc] at h1 ⊢
    rw [List.getElem?_append_left (by simpa using hc), View.set_ne (n := h.length) (by omega)]
    exact h1
  · rw [if_neg hc] at h1 ⊢
    by_cases hc2 : c = h.length
    · subst hc2; simp [View.set_same]
    · rw [if_neg (by simp; omega), View.set_ne hc2]
      rw [if_neg (by simpa using hc)] at h1
      exact h1

theorem BlkOK.mono {μ μ' : Mp} {w w' : World} {pl : Pl} {blk : Blk} (hm : μ.le μ') (hw : w'.heap[pl.r]? = w.heap[pl.r]?) (h : BlkOK μ w pl blk) : BlkOK μ' w' pl blk := by
  unfold BlkOK at *
  split
  · rename_i hs
    rw [if_pos hs] at h
    rw [hw]; exact h
  · rename_i hs
    rw [if_neg hs] at h
    obtain ⟨arr, el, fr, h1, h2, h3, h4, h5, h6⟩ := h
    exact ⟨arr, el, fr, by rw [hw]; exact h1, h2, h3, fun i c hc => let ⟨v, hv, hr⟩ := h4 i c hc; ⟨v, hv, hr.mono hm⟩, h5, h6⟩

theorem BlkOK.lt {μ : Mp} {w : World} {pl : Pl} {blk : Blk} (h : BlkOK μ w pl blk) : pl.r < w.heap.size := by
  unfold BlkOK at h
  split at h
  · obtain ⟨s, pos, _, _, _, h⟩ := h; exact (Array.getElem?_eq_some_iff.1 h).1
  · obtain ⟨arr, el, fr, h, _⟩ := h; exact (Array.getElem?_eq_some_iff.1 h).1

theorem Blk.wr_ne_dead {b : Blk} (h : b.wr) : b.st ≠ .dead := by
  rcases h with h | h <;> rw [h] <;> simp

/-- a new block -/
theorem sim_alloc {μ : Mp} {K : View} {w w' : World} (hS : SimV μ K w) {n : Nat} (hn : K n = none) {pl : Pl} {blk : Blk} (hr : pl.r = w.heap.size) (hsz : w'.heap.size = w.heap.size + 1)
    (hold : ∀ r, r < w.heap.size → w'.heap[r]? = w.heap[r]?) (hos : w'.os = w.os) (ht : w'.tape = w.tape) (hout : w'.output = w.output) (hB : BlkOK (μ.set n pl) w' pl blk) :
    SimV (μ.set n pl) (K.set n blk) w' ∧ Step μ K w (μ.set n pl) (K.set n blk) w' := by
  have hmn : μ n = none := by
    cases h : μ n with
    | none => rfl
    | some q => obtain ⟨b, hb⟩ := hS.dom n q h; rw [hn] at hb; simp at hb
  have hle := Mp.le_set (pl := pl) hmn
  have hlt : ∀ b blk0 q, K b = some blk0 → μ b = some q → blk0.st ≠ .dead → q.r < w.heap.size := by
    intro b blk0 q h1 h2 h3
    obtain ⟨q', h4, h5⟩ := hS.blk b blk0 h1
    rw [h2] at h4; simp at h4; subst h4
    exact (h5 h3).lt
  refine ⟨⟨?_, ?_, ?_⟩, ⟨hos, ht, hout, by omega, hle, fun r hr' _ => hold r hr', ?_⟩⟩
  · intro b q hb
    by_cases e : b = n
    · subst e; exact ⟨blk, View.set_same _ _ _⟩
    · rw [Mp.set_ne e] at hb; rw [View.set_ne e]; exact hS.dom b q hb
  · intro b blk0 hb
    by_cases e : b = n
    · subst e; rw [View.set_same] at hb; simp at hb; subst hb; exact ⟨pl, Mp.set_same _ _ _, fun _ => hB⟩
    · rw [View.set_ne e] at hb
      obtain ⟨q, h1, h2⟩ := hS.blk b blk0 hb
      refine ⟨q, by rw [Mp.set_ne e]; exact h1, fun hd => (h2 hd).mono hle (hold _ (h2 hd).lt)⟩
  · intro b b' blk0 blk1 q q' h1 h2 hne h3 h4 hw hd
    by_cases e : b = n
    · subst e
      rw [Mp.set_same] at h3; simp at h3; subst h3
      rw [View.set_ne (Ne.symm hne)] at h2; rw [Mp.set_ne (Ne.symm hne)] at h4
      have := hlt b' blk1 q' h2 h4 hd
      omega
    · rw [View.set_ne e] at h1; rw [Mp.set_ne e] at h3
      by_cases e' : b' = n
      · subst e'
        rw [Mp.set_same] at h4; simp at h4; subst h4
        have := hlt b blk0 q h1 h3 (Blk.wr_ne_dead hw)
        omega
      · rw [View.set_ne e'] at h2; rw [Mp.set_ne e'] at h4
        exact hS.inj b b' blk0 blk1 q q' h1 h2 hne h3 h4 hw hd
  · intro b blk0 q h1 hw h2
    by_cases e : b = n
    · subst e; rw [Mp.set_same] at h2; simp at h2; subst h2; left; omega
    · rw [View.set_ne e] at h1; rw [Mp.set_ne e] at h2
      exact .inr ⟨b, blk0, q, h1, hw, h2, rfl⟩

/-- a block that may be written is turned -/
theorem sim_upd {μ : Mp} {K : View} {w w' : World} (hS : SimV μ K w) {b : Nat} {blk blk' : Blk} {pl : Pl} (hK : K b = some blk) (hw : blk.wr) (hm : μ b = some pl) (hsz : w'.heap.size = w.heap.size)
    (hold : ∀ r, r ≠ pl.r → w'.heap[r]? = w.heap[r]?) (hos : w'.os = w.os) (ht : w'.tape = w.tape) (hout : w'.output = w.output) (hB : blk'.st ≠ .dead → BlkOK μ w' pl blk') :
    SimV μ (K.set b blk') w' ∧ Step μ K w μ (K.set b blk') w' := by
  have hoth : ∀ c blk0 q, c ≠ b → K c = some blk0 → μ c = some q → blk0.st ≠ .dead → q.r ≠ pl.r := fun c blk0 q hne h1 h2 h3 =>
    Ne.symm (hS.inj b c blk blk0 pl q hK h1 (Ne.symm hne) hm h2 hw h3)
  refine ⟨⟨?_, ?_, ?_⟩, ⟨hos, ht, hout, by omega, Mp.le_refl _, fun r _ hn => hold r (fun e => hn b blk pl hK hw hm e.symm), ?_⟩⟩
  · intro c q hc
    by_cases e : c = b
    · subst e; exact ⟨blk', View.set_same _ _ _⟩
    · rw [View.set_ne e]; exact hS.dom c q hc
  · intro c blk0 hc
    by_cases e : c = b
    · subst e; rw [View.set_same] at hc; simp at hc; subst hc; exact ⟨pl, hm, hB⟩
    · rw [View.set_ne e] at hc
      obtain ⟨q, h1, h2⟩ := hS.blk c blk0 hc
      exact ⟨q, h1, fun hd => (h2 hd).mono (Mp.le_refl _) (hold _ (hoth c blk0 q e hc h1 hd))⟩
  · intro c c' blk0 blk1 q q' h1 h2 hne h3 h4 hw' hd
    by_cases e : c = b
    · subst e
      rw [hm] at h3; simp at h3; subst h3
      rw [View.set_ne (Ne.symm hne)] at h2
      exact Ne.symm (hoth c' blk1 q' (Ne.symm hne) h2 h4 hd)
    · rw [View.set_ne e] at h1
      by_cases e' : c' = b
      · subst e'
        rw [hm] at h4; simp at h4; subst h4
        exact hoth c blk0 q e h1 h3 (Blk.wr_ne_dead hw')
      · rw [View.set_ne e'] at h2
        exact hS.inj c c' blk0 blk1 q q' h1 h2 hne h3 h4 hw' hd
  · intro c blk0 q h1 hw' h2
    by_cases e : c = b
    · subst e; exact .inr ⟨c, blk, pl, hK, hw, hm, by rw [hm] at h2; simp at h2; rw [h2]⟩
    · rw [View.set_ne e] at h1
      exact .inr ⟨c, blk0, q, h1, hw', h2, rfl⟩

/-- a block is taken over by a new one, in place -/
theorem sim_over {μ : Mp} {K : View} {w w' : World} (hS : SimV μ K w) {b n : Nat} {blk nw : Blk} {pl pl' : Pl} (hK : K b = some blk) (hw : blk.wr) (hm : μ b = some pl) (hn : K n = none) (hr : pl'.r = pl.r) (hsz : w'.heap.size = w.heap.size)
    (hold : ∀ r, r ≠ pl.r → w'.heap[r]? = w.heap[r]?) (hos : w'.os = w.os) (ht : w'.tape = w.tape) (hout : w'.output = w.output) (hB : BlkOK (μ.set n pl') w' pl' nw) :
    SimV (μ.set n pl') ((K.set b { blk with st := .dead }).set n nw) w' ∧ Step μ K w (μ.set n pl') ((K.set b { blk with st := .dead }).set n nw) w' := by
  have hmn : μ n = none := by
    cases h : μ n with
    | none => rfl
    | some q => obtain ⟨b, hb⟩ := hS.dom n q h; rw [hn] at hb; simp at hb
  have hbn : b ≠ n := fun e => by subst e; rw [hK] at hn; simp at hn
  have hle := Mp.le_set (pl := pl') hmn
  obtain ⟨hS1, hT1⟩ := sim_upd (w' := w') (blk' := { blk with st := .dead }) hS hK hw hm hsz hold hos ht hout (fun h => absurd rfl h)
  have hoth : ∀ c blk0 q, c ≠ b → K c = some blk0 → μ c = some q → blk0.st ≠ .dead → q.r ≠ pl.r := fun c blk0 q hne h1 h2 h3 =>
    Ne.symm (hS.inj b c blk blk0 pl q hK h1 (Ne.symm hne) hm h2 hw h3)
  refine ⟨⟨?_, ?_, ?_⟩, ⟨hos, ht, hout, by omega, hle, hT1.keep, ?_⟩⟩
  · intro c q hc
    by_cases e : c = n
    · subst e; exact ⟨nw, View.set_same _ _ _⟩
    · rw [Mp.set_ne e] at hc; rw [View.set_ne e]; exact hS1.dom c q hc
  · intro c blk0 hc
    by_cases e : c = n
    · subst e; rw [View.set_same] at hc; simp at hc; subst hc; exact ⟨pl', Mp.set_same _ _ _, fun _ => hB⟩
    · rw [View.set_ne e] at hc
      obtain ⟨q, h1, h2⟩ := hS1.blk c blk0 hc
      exact ⟨q, by rw [Mp.set_ne e]; exact h1, fun hd => (h2 hd).mono hle rfl⟩
  · intro c c' blk0 blk1 q q' h1 h2 hne h3 h4 hw' hd
    have aux : ∀ d blkd qd, d ≠ n → (K.set b { blk with st := .dead }) d = some blkd → μ d = some qd → blkd.st ≠ .dead → qd.r ≠ pl'.r := by
      intro d blkd qd hdn g1 g2 g3
      by_cases e : d = b
      · subst e; rw [View.set_same] at g1; simp at g1; subst g1; exact absurd rfl g3
      · rw [View.set_ne e] at g1; rw [hr]; exact hoth d blkd qd e g1 g2 g3
    by_cases e : c = n
    · subst e
      rw [Mp.set_same] at h3; simp at h3; subst h3
      rw [View.set_ne (Ne.symm hne)] at h2; rw [Mp.set_ne (Ne.symm hne)] at h4
      exact Ne.symm (aux c' blk1 q' (Ne.symm hne) h2 h4 hd)
    · rw [View.set_ne e] at h1; rw [Mp.set_ne e] at h3
      by_cases e' : c' = n
      · subst e'
        rw [Mp.set_same] at h4; simp at h4; subst h4
        exact aux c blk0 q e h1 h3 (Blk.wr_ne_dead hw')
      · rw [View.set_ne e'] at h2; rw [Mp.set_ne e'] at h4
        exact hS1.inj c c' blk0 blk1 q q' h1 h2 hne h3 h4 hw' hd
  · intro c blk0 q h1 hw' h2
    by_cases e : c = n
    · subst e; rw [Mp.set_same] at h2; simp at h2; subst h2; exact .inr ⟨b, blk, pl, hK, hw, hm, hr.symm⟩
    · rw [View.set_ne e] at h1; rw [Mp.set_ne e] at h2
      exact hT1.own c blk0 q h1 hw' h2

end Go.Cn
