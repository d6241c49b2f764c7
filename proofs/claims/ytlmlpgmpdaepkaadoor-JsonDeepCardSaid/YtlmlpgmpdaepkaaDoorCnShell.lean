/- From a canonical run to the machine's call; tables that stay. -/
import Derived.Test.YtlmlpgmpdaepkaaDoorCnClosed
import Derived.Lib.LaidU8
set_option linter.unusedSimpArgs false
set_option linter.unusedVariables false
set_option linter.unusedSectionVars false
namespace Go.Cn
open Go.RowKit Go.Proofs

theorem cell_row {w W : World} {g : Nat} (h : w.heap[g]? = W.heap[g]?) (c : Nat) : w.cell? ⟨g, c, none⟩ = W.cell? ⟨g, c, none⟩ := by
  unfold World.cell?
  simp only [h]

theorem kept_row {W w : World} {l : List Nat} {μ : Mp} {K : View} (h : Held (Kept W l) μ K w) {g : Nat} (hg : g ∈ l) {o : Obj} (ho : W.heap[g]? = some o) : w.heap[g]? = W.heap[g]? := by
  rw [ho]; exact kept_at h hg ho

theorem kept_tab {P : Program} {W w : World} {l : List Nat} {μ : Mp} {K : View} (h : Held (Kept W l) μ K w) {n : String} {k : IntKind} {zs : List Int} {g : Nat} (hg : P.globalNamed n = some g) (hm : g ∈ l) (hT : Lib.TabIs P W n k zs) : Lib.TabIs P w n k zs := by
  unfold Lib.TabIs World.var? at hT ⊢
  rw [hg] at hT ⊢
  simp only [Option.bind_some] at hT ⊢
  cases ho : W.heap[g]? with
  | none => rw [ho] at hT; simp at hT
  | some o => rw [kept_row h hm ho]; exact hT

theorem kept_utf8 {W w : World} {l : List Nat} {μ : Mp} {K : View} (h : Held (Kept W l) μ K w) {a b : Nat} (ha : a ∈ l) (hb : b ∈ l) (hT : Lib.Utf8Tabs a b W) : Lib.Utf8Tabs a b w := by
  have key : ∀ g c v, g ∈ l → W.cell? ⟨g, c, none⟩ = some v → w.cell? ⟨g, c, none⟩ = some v := by
    intro g c v hg hv
    cases ho : W.heap[g]? with
    | none => unfold World.cell? at hv; simp only [ho] at hv; simp at hv
    | some o => rw [cell_row (kept_row h hg ho)]; exact hv
  exact ⟨fun c hc => key _ _ _ ha (hT.1 c hc), fun i hi => ⟨key _ _ _ hb (hT.2 i hi).1, key _ _ _ hb (hT.2 i hi).2⟩⟩

/-- a run in the empty heap, of plain arguments -/
theorem calls_plain {P : Program} {hk : Hook} {W : World} {l : List Nat} (hH : HookOK (Kept W l) P hk) (hmix : P.follows .mixedOrders = true) {f : FuncId} {args : List CV} {v : CV} {h' : Heap} (hv : v.plain = true) (hd : den P hk f args [] = some (v, h')) {args' : Array Value} (ha : VLr (fun _ => none) args args') :
    Calls P f args' W fun e W' => ∃ u, e = .returned u ∧ VR (fun _ => none) v u ∧ Below W.heap.size W W' := by
  have hok := den_sound hH hmix hd
  have hS0 : SimG (Kept W l) (fun _ => none) (fun _ => none) W := ⟨⟨fun b pl hb => by simp at hb, fun b blk hb => by simp at hb, fun b b' blk blk' pl pl' hb => by simp at hb⟩, ⟨fun g o hg => hg.2, fun b blk pl g o hb => by simp at hb⟩⟩
  refine (hok.2 _ _ W args' ha hS0 (fun b blk _ hb => by simp at hb) (fun b _ _ => rfl)).mono fun e w' ⟨u, he, μ', hu, hst, _⟩ => ⟨u, he, vr_plain hv hu, hst.os, hst.tape, hst.output, hst.size, fun k hk => hst.keep k hk fun b blk pl hb => by simp at hb⟩

theorem vlr_nil' {μ : Mp} : VLr μ [] #[] := ⟨rfl, fun i c hc => by simp at hc⟩
theorem vlr_one' {μ : Mp} {c : CV} {v : Value} (h : VR μ c v) : VLr μ [c] #[v] := ⟨rfl, fun i c' hc => by
  match i, hc with
  | 0, hc => simp at hc; subst hc; exact ⟨v, rfl, h⟩⟩
theorem vlr_two' {μ : Mp} {c d : CV} {v u : Value} (h : VR μ c v) (k : VR μ d u) : VLr μ [c, d] #[v, u] := ⟨rfl, fun i c' hc => by
  match i, hc with
  | 0, hc => simp at hc; subst hc; exact ⟨v, rfl, h⟩
  | 1, hc => simp at hc; subst hc; exact ⟨u, rfl, k⟩⟩
theorem vlr_three' {μ : Mp} {c d e : CV} {v u t : Value} (h : VR μ c v) (k : VR μ d u) (m : VR μ e t) : VLr μ [c, d, e] #[v, u, t] := ⟨rfl, fun i c' hc => by
  match i, hc with
  | 0, hc => simp at hc; subst hc; exact ⟨v, rfl, h⟩
  | 1, hc => simp at hc; subst hc; exact ⟨u, rfl, k⟩
  | 2, hc => simp at hc; subst hc; exact ⟨t, rfl, m⟩⟩

end Go.Cn
