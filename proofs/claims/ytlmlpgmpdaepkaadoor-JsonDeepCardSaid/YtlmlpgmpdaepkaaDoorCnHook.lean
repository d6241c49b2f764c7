/- Hooks: functions whose contracts come from the kit's shelf. -/
import Derived.Test.YtlmlpgmpdaepkaaDoorCnSimp
import Derived.Below
import Derived.Sort.Grow
import Derived.Deep.Draws
set_option linter.unusedSimpArgs false
set_option linter.unusedVariables false
set_option linter.unusedSectionVars false
namespace Go.Cn
open Go.RowKit

theorem vlr_nil {μ : Mp} {a : Array Value} (h : VLr μ [] a) : a = #[] := by
  obtain ⟨h1, _⟩ := h
  simp at h1
  exact Array.eq_empty_of_size_eq_zero h1.symm

theorem vlr_one {μ : Mp} {c : CV} {a : Array Value} (h : VLr μ [c] a) : ∃ v, a = #[v] ∧ VR μ c v := by
  obtain ⟨h1, h2⟩ := h
  obtain ⟨v, hv, hr⟩ := h2 0 c rfl
  refine ⟨v, ?_, hr⟩
  cases a with
  | mk l =>
    simp at h1 hv
    match l, h1, hv with
    | [x], _, hv => simp at hv; simp [hv]

theorem vlr_two {μ : Mp} {c d : CV} {a : Array Value} (h : VLr μ [c, d] a) : ∃ v u, a = #[v, u] ∧ VR μ c v ∧ VR μ d u := by
  obtain ⟨h1, h2⟩ := h
  obtain ⟨v, hv, hr⟩ := h2 0 c rfl
  obtain ⟨u, hu, hr'⟩ := h2 1 d rfl
  refine ⟨v, u, ?_, hr, hr'⟩
  cases a with
  | mk l =>
    simp at h1 hv hu
    match l, h1, hv, hu with
    | [x, y], _, hv, hu => simp at hv hu; simp [hv, hu]

theorem vlr_three {μ : Mp} {c d e : CV} {a : Array Value} (h : VLr μ [c, d, e] a) : ∃ v u t, a = #[v, u, t] ∧ VR μ c v ∧ VR μ d u ∧ VR μ e t := by
  obtain ⟨h1, h2⟩ := h
  obtain ⟨v, hv, hr⟩ := h2 0 c rfl
  obtain ⟨u, hu, hr'⟩ := h2 1 d rfl
  obtain ⟨t, ht, hr''⟩ := h2 2 e rfl
  refine ⟨v, u, t, ?_, hr, hr', hr''⟩
  cases a with
  | mk l =>
    simp at h1 hv hu ht
    match l, h1, hv, hu, ht with
    | [x, y, z], _, hv, hu, ht => simp at hv hu ht; simp [hv, hu, ht]

theorem below_grow (w : World) (k : Nat) (os : Array Obj) : Below w.heap.size w (Go.Sort.grow (w.drewN k) os) :=
  ⟨rfl, rfl, rfl, by simp [Go.Sort.grow, World.drewN], fun j hj => by
    simp only [Go.Sort.grow, World.drewN]
    exact Array.getElem?_append_left hj⟩

section
variable {G : Nat → Obj → Prop} {P : Program} {μ : Mp} {K : View} {w w' : World} {h h' : Heap} {v : CV} {u : Value}

/-- nothing of what was there has turned -/
theorem after_below (hS : SimV μ K w) (hB : Below w.heap.size w w') (hv : VR μ v u) : After μ K w h v h u w' := by
  refine ⟨μ, hv, ?_, ?_⟩
  · rw [updK_self]
    exact ⟨hB.os, hB.tape, hB.output, hB.size, Mp.le_refl _, fun r hr _ => hB.block r hr, fun b blk pl hK hw hm => .inr ⟨b, blk, pl, hK, hw, hm, rfl⟩⟩
  · rw [updK_self]
    exact ⟨hS.dom, fun b blk hK => let ⟨pl, h1, h2⟩ := hS.blk b blk hK; ⟨pl, h1, fun hd => BlkOK.mono (Mp.le_refl _) (hB.block _ (h2 hd).lt) (h2 hd)⟩, hS.inj⟩

theorem callOK_below {f : FuncId} {args : List CV} (hE : Enters P f) (hc : ∀ μ K w args', VLr μ args args' → SimG G μ K w → Agree K h All → Calls P f args' w fun e w' => ∃ u, e = .returned u ∧ VR μ v u ∧ Below w.heap.size w w') : CallOK G P f args h v h :=
  ⟨hE, fun μ K w args' ha hS hA _ => (hc μ K w args' ha hS hA).mono fun _ _ ⟨u, he, hv, hB⟩ => ⟨u, he, after_below hS.toSimV hB hv⟩⟩

/-- a block that is marked as one that none writes any more -/
theorem after_ro {b : Nat} {blk : Blk} (hS : SimV μ K w) (hb : h[b]? = some blk) (hK : K b = some blk) (hl : blk.st = .live) (hB : ∀ pl, μ b = some pl → BlkOK μ w' pl { blk with st := .ro })
    (hos : w'.os = w.os) (ht : w'.tape = w.tape) (ho : w'.output = w.output) (hsz : w.heap.size ≤ w'.heap.size) (hold : ∀ r, r < w.heap.size → (∀ pl, μ b = some pl → r ≠ pl.r) → w'.heap[r]? = w.heap[r]?) (hv : VR μ v u) :
    After μ K w h v (h.set b { blk with st := .ro }) u w' := by
  obtain ⟨pl, hm, hok⟩ := hS.blk b blk hK
  have hwr : blk.wr := .inl hl
  refine ⟨μ, hv, ?_, ?_⟩
  · rw [updK_set hb hK]
    refine ⟨hos, ht, ho, hsz, Mp.le_refl _, fun r hr hn => hold r hr fun pl' hm' he => hn b blk pl' hK hwr hm' he.symm, fun c blk' pl' hc hw hm' => .inr ?_⟩
    by_cases hcb : c = b
    · subst hcb
      exact ⟨c, blk, pl', hK, hwr, hm', rfl⟩
    · rw [View.set_ne hcb] at hc
      exact ⟨c, blk', pl', hc, hw, hm', rfl⟩
  · rw [updK_set hb hK]
    refine ⟨fun c pl' hm' => ?_, fun c blk' hc => ?_, fun c c' blk1 blk2 pl1 pl2 hc hc' hne hm1 hm2 hw hd => ?_⟩
    · by_cases hcb : c = b
      · subst hcb; exact ⟨_, View.set_same _ _ _⟩
      · rw [View.set_ne hcb]; exact hS.dom c pl' hm'
    · by_cases hcb : c = b
      · subst hcb
        rw [View.set_same] at hc
        simp at hc; subst hc
        exact ⟨pl, hm, fun _ => hB pl hm⟩
      · rw [View.set_ne hcb] at hc
        obtain ⟨pl', hm', hok'⟩ := hS.blk c blk' hc
        refine ⟨pl', hm', fun hd => BlkOK.mono (Mp.le_refl _) (hold _ (hok' hd).lt fun pl2 hm2 => ?_) (hok' hd)⟩
        exact fun he => hS.inj b c blk blk' pl2 pl' hK hc (Ne.symm hcb) hm2 hm' hwr hd he.symm
    · by_cases hcb : c = b
      · subst hcb
        rw [View.set_same] at hc
        simp at hc; subst hc
        rcases hw with hw | hw <;> simp at hw
      · rw [View.set_ne hcb] at hc
        by_cases hcb' : c' = b
        · subst hcb'
          rw [View.set_same] at hc'
          simp at hc'; subst hc'
          exact hS.inj c c' blk1 blk pl1 pl2 hc hK hcb hm1 hm2 hw (by rw [hl]; simp)
        · rw [View.set_ne hcb'] at hc'
          exact hS.inj c c' blk1 blk2 pl1 pl2 hc hc' hne hm1 hm2 hw hd

end

/-- rows that hold what they held in a world -/
def Kept (W : World) (l : List Nat) : Nat → Obj → Prop := fun g o => g ∈ l ∧ W.heap[g]? = some o

theorem kept_at {W w : World} {l : List Nat} {μ : Mp} {K : View} (h : Held (Kept W l) μ K w) {g : Nat} {o : Obj} (hg : g ∈ l) (ho : W.heap[g]? = some o) : w.heap[g]? = some o := h.1 g o ⟨hg, ho⟩

end Go.Cn
