/- Layers: a contract that is proved becomes a hook of the next layer. -/
import Derived.Test.YtlmlpgmpdaepkaaDoorCnClosed
set_option linter.unusedSimpArgs false
set_option linter.unusedVariables false
set_option linter.unusedSectionVars false
namespace Go.Cn

noncomputable def layer (P : Program) (hk : Hook) (top : FuncId → Bool) (sp : Hook) : Hook := fun f args h =>
  match sp f args h with
  | some r => some r
  | none => if top f then none else den P hk f args h

theorem layer_sp {P : Program} {hk sp : Hook} {top : FuncId → Bool} {f : FuncId} {args : List CV} {h : Heap} {r : CV × Heap} (hs : sp f args h = some r) : layer P hk top sp f args h = some r := by simp [layer, hs]
theorem layer_top {P : Program} {hk sp : Hook} {top : FuncId → Bool} {f : FuncId} {args : List CV} {h : Heap} (hs : sp f args h = none) (ht : top f = true) : layer P hk top sp f args h = none := by simp [layer, hs, ht]
theorem layer_old {P : Program} {hk sp : Hook} {top : FuncId → Bool} {f : FuncId} {args : List CV} {h : Heap} {r : CV × Heap} (hs : sp f args h = none) (ht : top f = false) (hd : den P hk f args h = some r) : layer P hk top sp f args h = some r := by simp [layer, hs, ht, hd]

theorem layer_ok {G : Nat → Obj → Prop} {P : Program} {hk sp : Hook} {top : FuncId → Bool} (hH : HookOK G P hk) (hmix : P.follows .mixedOrders = true) (hsp : HookOK G P sp) : HookOK G P (layer P hk top sp) := by
  have key : ∀ f args h v h', layer P hk top sp f args h = some (v, h') → sp f args h = some (v, h') ∨ den P hk f args h = some (v, h') := by
    intro f args h v h' hl
    unfold layer at hl
    split at hl
    · rename_i r hr
      rw [hr]; exact .inl hl
    · split at hl
      · simp at hl
      · exact .inr hl
  refine ⟨fun f args h v h' hl => ?_, fun f args h v h' hl => ?_⟩
  · rcases key f args h v h' hl with hl | hl
    · exact hsp.1 _ _ _ _ _ hl
    · obtain ⟨n, hn⟩ := den_iff.1 hl
      exact (run_len hH.1 n).2.2.2 _ _ _ _ _ hn
  · rcases key f args h v h' hl with hl | hl
    · exact hsp.2 _ _ _ _ _ hl
    · exact den_sound hH hmix hl

/-- a hook of closed truths -/
def truths (l : List FuncId) : Hook := fun f args h => if f ∈ l ∧ args.isEmpty then some (.bool true, h) else none

theorem truths_ok {G : Nat → Obj → Prop} {P : Program} {T : FuncId → Option CF} {hk : Hook} (hT : ∀ f cf, T f = some cf → compF P f = some cf) (hH : HookOK G P hk) (hmix : P.follows .mixedOrders = true) {n : Nat} {l : List FuncId}
    (hl : ∀ f ∈ l, kTrue T hk n f = true) : HookOK G P (truths l) := by
  refine ⟨fun f args h v h' hh => ?_, fun f args h v h' hh => ?_⟩
  · unfold truths at hh
    split at hh
    · simp at hh; rw [hh.2]; exact Nat.le_refl _
    · simp at hh
  · unfold truths at hh
    split at hh
    · rename_i hc
      simp at hh
      obtain ⟨rfl, rfl⟩ := hh
      have : args = [] := by simpa using hc.2
      subst this
      exact closed_true hT hH hmix (hl f hc.1) h
    · simp at hh

end Go.Cn
