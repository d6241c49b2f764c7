/- Calls with slices of numbers among the arguments. -/
import Derived.Test.YtlmlpgmpdaepkaaDoorCnShell
import Derived.Test.YtlmlpgmpdaepkaaDoorCnRep
set_option linter.unusedSimpArgs false
set_option linter.unusedVariables false
set_option linter.unusedSectionVars false
namespace Go.Cn
open Go.RowKit Go.Proofs

/-- what is told of a slice of integers that came in -/
def IsRow (k : IntKind) (w : World) (a : Option Addr) (len cap : Nat) (zs : List Int) : Prop :=
  (a = none ∧ len = 0 ∧ cap = 0 ∧ zs = []) ∨
  ∃ x, a = some x ∧ len ≤ cap ∧ cap ≤ maxLen ∧ zs.length = cap ∧ (∀ i, i < zs.length → w.cell? (x.add i) = some (.int k (zs.getD i 0))) ∧ ∀ n ∈ zs, (Lit.int k n).wf = true

def rowCells (k : IntKind) (zs : List Int) : List (List CV) := zs.map fun z => [.int k z]

theorem row_flat (k : IntKind) (zs : List Int) : (rowCells k zs).flatten = zs.map (CV.int k) := by
  induction zs with
  | nil => rfl
  | cons z zs ih => simp only [rowCells] at ih; simp [rowCells, ih]

theorem arg_slice {k : IntKind} {w : World} {a : Option Addr} {len cap : Nat} {zs : List Int} (h : IsRow k w a len cap zs) (hr : ∃ (r : Nat) (arr : Array Value) (el : TypeId) (fr : Nat × Nat), w.heap[r]? = some (.cells arr el fr)) (b : Nat) :
    ∃ cv blk pl, (∀ μ : Mp, μ b = some pl → VR μ cv (.slice a len cap)) ∧ (∀ μ, BlkOK μ w pl blk) ∧ blk.st = .ro ∧ ∀ S H, H[b]? = some blk → ¬ S b → Sl S H 1 cv (rowCells k (zs.take len)) := by
  obtain ⟨r, arr, el, fr, hr⟩ := hr
  have empty : ∀ μ, BlkOK μ w ⟨r, 0, arr.size⟩ { cells := [], st := .ro } := fun μ => by
    unfold BlkOK
    rw [if_neg (by simp)]
    exact ⟨arr, el, fr, hr, rfl, by simp, fun i c hc => by simp at hc, fun h => by simp at h, fun t h => by simp at h, fun t h => by simp at h⟩
  rcases h with ⟨rfl, rfl, rfl, rfl⟩ | ⟨x, rfl, hl, hm, hz, hcell, hw⟩
  · exact ⟨.nils, { cells := [], st := .ro }, ⟨r, 0, arr.size⟩, fun μ _ => rfl, empty, rfl, fun S H _ _ => Sl.nil⟩
  · by_cases h0 : cap = 0
    · subst h0
      have hl0 : len = 0 := by omega
      subst hl0
      refine ⟨.slc b 0 0 0 1 false, { cells := [], st := .ro }, ⟨r, 0, arr.size⟩, fun μ hm => ⟨_, x, 0, hm, rfl, Nat.le_refl _, Nat.le_refl _, by simp, by omega, .inl rfl⟩, empty, rfl, fun S H hb hs => ?_⟩
      exact .inr ⟨b, 0, 0, false, { cells := [], st := .ro }, by simp [rowCells], hb, hs, .inr rfl, by simp [rowCells], by simp [rowCells], by simp [rowCells]⟩
    · have hc0 := hcell 0 (by omega)
      have hx0 : x.add 0 = x := by simp [Addr.add]
      rw [hx0] at hc0
      unfold World.cell? at hc0
      obtain ⟨arr', el', fr', hrow, hspot⟩ : ∃ arr' el' fr', w.heap[x.block]? = some (.cells arr' el' fr') ∧ x.spot = none := by
        split at hc0
        · rename_i arr' el' fr' hq
          split at hc0
          · simp at hc0
          · rename_i hs
            exact ⟨arr', el', fr', hq, by simpa using hs⟩
        · simp at hc0
      have hadd : ∀ i, x.add i = ⟨x.block, x.off + i, none⟩ := by
        intro i
        unfold Addr.add
        split
        · rename_i hi
          subst hi
          cases x
          simp at hspot ⊢
          exact hspot
        · rfl
      have hat : ∀ i, i < zs.length → arr'[x.off + i]? = some (.int k (zs.getD i 0)) := by
        intro i hi
        have := hcell i hi
        rw [hadd i] at this
        unfold World.cell? at this
        simp only [hrow] at this
        simpa using this
      have hsz : x.off + zs.length ≤ arr'.size := by
        have := hat (zs.length - 1) (by omega)
        have := (Array.getElem?_eq_some_iff.1 this).1
        omega
      refine ⟨.slc b 0 len cap 1 false, { cells := zs.map (CV.int k), st := .ro }, ⟨x.block, x.off, arr'.size⟩, fun μ hm => ⟨_, x, cap, hm, rfl, hl, Nat.le_refl _, by simp, by omega, .inr ⟨?_, ?_⟩⟩, fun μ => ?_, rfl, fun S H hb hs => ?_⟩
      · have := hadd 0
        rw [hx0] at this
        exact this
      · simp only [Nat.add_zero, Nat.mul_one]; omega
      · unfold BlkOK
        rw [if_neg (by simp)]
        refine ⟨arr', el', fr', hrow, rfl, by simpa using hsz, fun i c hc => ?_, fun h => by simp at h, fun t h => by simp at h, fun t h => by simp at h⟩
        simp only [List.getElem?_map, Option.map_eq_some_iff] at hc
        obtain ⟨z, hz, rfl⟩ := hc
        have hi := (List.getElem?_eq_some_iff.1 hz).1
        refine ⟨.int k z, ?_, rfl⟩
        rw [hat i hi]
        simp [List.getD, hz]
      · refine .inr ⟨b, 0, cap, false, { cells := zs.map (CV.int k), st := .ro }, ?_, hb, hs, .inr rfl, ?_, ?_, ?_⟩
        · simp [rowCells, hz, Nat.min_eq_left hl]
        · rw [row_flat]
          simp [rowCells, hz, Nat.min_eq_left hl, List.map_take]
        · simp [rowCells, hz, Nat.min_eq_left hl]; omega
        · intro y hy
          simp only [rowCells, List.mem_map] at hy
          obtain ⟨z, _, rfl⟩ := hy
          rfl

/-- one slice -/
theorem calls_row1 {P : Program} {hk : Hook} {W : World} {l : List Nat} (hH : HookOK (Kept W l) P hk) (hmix : P.follows .mixedOrders = true) (hr : ∃ (r : Nat) (arr : Array Value) (el : TypeId) (fr : Nat × Nat), W.heap[r]? = some (.cells arr el fr)) {f : FuncId} {k : IntKind} {a : Option Addr} {len cap : Nat} {zs : List Int} (h : IsRow k W a len cap zs) {more : List CV} {more' : List Value} (hm : more.length = more'.length) (hmp : ∀ (i : Nat) c, more[i]? = some c → ∃ v, more'[i]? = some v ∧ ∀ μ, VR μ c v)
    (hd : ∀ cv H0, Sl (fun _ => False) H0 1 cv (rowCells k (zs.take len)) → ∃ H', den P hk f (cv :: more) H0 = some (.bool true, H')) :
    Calls P f (.slice a len cap :: more').toArray W fun e W' => e = .returned (.bool true) ∧ Below W.heap.size W W' := by
  obtain ⟨cv, blk, pl, h1, h2, h3, h4⟩ := arg_slice h hr 0
  let μ : Mp := fun b => if b = 0 then some pl else none
  let K : View := fun b => if b = 0 then some blk else none
  obtain ⟨H', hd⟩ := hd cv [blk] (h4 _ _ rfl id)
  have hok := den_sound hH hmix hd
  have hro : ¬ blk.wr := by unfold Blk.wr; rw [h3]; simp
  have hS0 : SimG (Kept W l) μ K W := by
    refine ⟨⟨fun b pl' hb => ?_, fun b blk' hb => ?_, fun b b' blk1 blk2 pl1 pl2 hb hb' hne _ _ hw => ?_⟩, ⟨fun g o hg => hg.2, fun b blk' pl' g o hb hw => ?_⟩⟩
    · simp only [μ] at hb
      split at hb
      · rename_i h0; exact ⟨blk, by simp [K, h0]⟩
      · simp at hb
    · simp only [K] at hb
      split at hb
      · rename_i h0; simp at hb; subst hb; exact ⟨pl, by simp [μ, h0], fun _ => h2 _⟩
      · simp at hb
    · simp only [K] at hb
      split at hb
      · simp at hb; subst hb; exact absurd hw hro
      · simp at hb
    · simp only [K] at hb
      split at hb
      · simp at hb; subst hb; exact absurd hw hro
      · simp at hb
  refine (hok.2 μ K W _ ⟨by simp [hm], fun i c hc => ?_⟩ hS0 (fun b blk' _ hb hK => ?_) (fun b hb _ => ?_)).mono fun e w' ⟨u, he, μ', hu, hst, _⟩ => ?_
  · cases i with
    | zero => simp at hc; subst hc; exact ⟨_, rfl, h1 μ (by simp [μ])⟩
    | succ i =>
      simp at hc
      obtain ⟨v, hv, hr⟩ := hmp i c hc
      exact ⟨v, by simpa using hv, hr μ⟩
  · simp at hb
    subst hb
    simp only [K, if_true] at hK
    simpa using hK
  · simp at hb
    simp [K]; omega
  · have hu : u = .bool true := hu
    subst hu
    refine ⟨he, hst.os, hst.tape, hst.output, hst.size, fun r hr => hst.keep r hr fun b blk' pl' hb hw => ?_⟩
    simp only [K] at hb
    split at hb
    · simp at hb; subst hb; exact absurd hw hro
    · simp at hb

/-- two slices -/
theorem calls_row2 {P : Program} {hk : Hook} {W : World} {l : List Nat} (hH : HookOK (Kept W l) P hk) (hmix : P.follows .mixedOrders = true) (hr : ∃ (r : Nat) (arr : Array Value) (el : TypeId) (fr : Nat × Nat), W.heap[r]? = some (.cells arr el fr)) {f : FuncId} {k : IntKind} {a a' : Option Addr} {len cap len' cap' : Nat} {zs zs' : List Int} (h : IsRow k W a len cap zs) (h' : IsRow k W a' len' cap' zs')
    (hd : ∀ cv cv' H0, Sl (fun _ => False) H0 1 cv (rowCells k (zs.take len)) → Sl (fun _ => False) H0 1 cv' (rowCells k (zs'.take len')) → ∃ H', den P hk f [cv, cv'] H0 = some (.bool true, H')) :
    Calls P f #[.slice a len cap, .slice a' len' cap'] W fun e W' => e = .returned (.bool true) ∧ Below W.heap.size W W' := by
  obtain ⟨cv, blk, pl, h1, h2, h3, h4⟩ := arg_slice h hr 0
  obtain ⟨cv', blk', pl', g1, g2, g3, g4⟩ := arg_slice h' hr 1
  let μ : Mp := fun b => if b = 0 then some pl else if b = 1 then some pl' else none
  let K : View := fun b => if b = 0 then some blk else if b = 1 then some blk' else none
  obtain ⟨H', hd⟩ := hd cv cv' [blk, blk'] (h4 _ _ rfl id) (g4 _ _ rfl id)
  have hok := den_sound hH hmix hd
  have hro : ∀ b x, K b = some x → ¬ x.wr := by
    intro b x hb
    simp only [K] at hb
    split at hb
    · simp at hb; subst hb; unfold Blk.wr; rw [h3]; simp
    · split at hb
      · simp at hb; subst hb; unfold Blk.wr; rw [g3]; simp
      · simp at hb
  have hS0 : SimG (Kept W l) μ K W := by
    refine ⟨⟨fun b pl' hb => ?_, fun b blk' hb => ?_, fun b b' blk1 blk2 pl1 pl2 hb hb' hne _ _ hw => absurd hw (hro _ _ hb)⟩, ⟨fun g o hg => hg.2, fun b blk' pl' g o hb hw => absurd hw (hro _ _ hb)⟩⟩
    · simp only [μ] at hb
      split at hb
      · rename_i h0; exact ⟨blk, by simp [K, h0]⟩
      · split at hb
        · rename_i h0 h1; exact ⟨blk', by simp [K, h1]⟩
        · simp at hb
    · simp only [K] at hb
      split at hb
      · rename_i h0; simp at hb; subst hb; exact ⟨pl, by simp [μ, h0], fun _ => h2 _⟩
      · split at hb
        · rename_i h0 h1; simp at hb; subst hb; exact ⟨pl', by simp [μ, h1], fun _ => g2 _⟩
        · simp at hb
  refine (hok.2 μ K W _ (vlr_two' (h1 μ (by simp [μ])) (g1 μ (by simp [μ]))) hS0 (fun b x _ hb hK => ?_) (fun b hb _ => ?_)).mono fun e w' ⟨u, he, μ', hu, hst, _⟩ => ?_
  · simp at hb
    rcases (show b = 0 ∨ b = 1 by omega) with rfl | rfl <;> simpa [K] using hK
  · simp at hb
    have h0 : b ≠ 0 := by omega
    have h1 : b ≠ 1 := by omega
    simp [K, h0, h1]
  · have hu : u = .bool true := hu
    subst hu
    exact ⟨he, hst.os, hst.tape, hst.output, hst.size, fun r hr => hst.keep r hr fun b x y hb hw => absurd hw (hro _ _ hb)⟩

end Go.Cn
