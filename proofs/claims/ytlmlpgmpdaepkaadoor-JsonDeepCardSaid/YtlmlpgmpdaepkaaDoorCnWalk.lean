/- The walk's second style: every look-up of cells by its block. -/
import Derived.Test.YtlmlpgmpdaepkaaDoorCnRep
set_option linter.unusedSimpArgs false
set_option linter.unusedVariables false
set_option linter.unusedSectionVars false
namespace Go.Cn

theorem ldB_some {blk : Blk} {off n : Nat} : ldB (some blk) off n = if (blk.st = .live ∨ blk.st = .ro) ∧ off + n ≤ blk.cells.length then some ((blk.cells.drop off).take n) else none := rfl
theorem stcB_some {H : Heap} {b : Nat} {blk : Blk} {off : Nat} {cs : List CV} : stcB H b (some blk) off cs = if blk.st = .live ∧ off + cs.length ≤ blk.cells.length then some (H.set b { blk with cells := splice blk.cells off cs }) else none := rfl

theorem bits_i64 : IntKind.i64.bits = 64 := rfl
theorem bits_u64 : IntKind.u64.bits = 64 := rfl
theorem bits_u8 : IntKind.u8.bits = 8 := rfl
theorem bits_i32 : IntKind.i32.bits = 32 := rfl

theorem and_le (x : Int) (m : Nat) (hm : m < 2 ^ 63) : 0 ≤ ibits .and .i64 x m ∧ ibits .and .i64 x m ≤ m := by
  have h1 : (BitVec.ofInt 64 x &&& BitVec.ofInt 64 (m : Int)).toNat ≤ m := by
    rw [BitVec.toNat_and]
    refine Nat.le_trans Nat.and_le_right ?_
    simp only [BitVec.toNat_ofInt]
    omega
  have e : ibits .and .i64 x m = IntKind.i64.wrap ((BitVec.ofInt 64 x &&& BitVec.ofInt 64 (m : Int)).toNat : Int) := rfl
  rw [e, IntKind.wrap_i64]
  omega

theorem choose_fn {α β : Type} {p : α → β → Prop} (h : ∀ a, ∃ b, p a b) : ∃ f : α → β, ∀ a, p a (f a) := ⟨fun a => (h a).choose, fun a => (h a).choose_spec⟩

section
variable {P : Program} {hk : Hook} {e : Env} {h : Heap}

open Classical in
/-- a call beside which nothing may turn -/
noncomputable def cStep (P : Program) (hk : Hook) (d : Option Nat) (h : Heap) (r : Option (CV × Heap)) (l : List CO) (e : Env) : Option (Env × Heap) :=
  match r with
  | some (v, h') => if h.Ext h' then dOps P hk l (e.put d v) h' else none
  | none => none

theorem cStep_some {d : Option Nat} {v : CV} {h' : Heap} {l : List CO} (hx : h.Ext h') : cStep P hk d h (some (v, h')) l e = dOps P hk l (e.put d v) h' := by
  unfold cStep; simp only; rw [if_pos hx]

theorem ext_self : h.Ext h := ⟨[], by simp⟩
theorem ext_app {g : Heap} : h.Ext (h ++ g) := ⟨g, rfl⟩
theorem ext_app2 {a b : Heap} : Heap.Ext (h ++ a) (h ++ b) ↔ a.Ext b :=
  ⟨fun ⟨x, hx⟩ => ⟨x, by rw [List.append_assoc] at hx; exact List.append_cancel_left hx⟩, fun ⟨x, hx⟩ => ⟨x, by rw [hx, List.append_assoc]⟩⟩
theorem ext_cons {x : Blk} {a b : Heap} : Heap.Ext (x :: a) (x :: b) ↔ a.Ext b :=
  ⟨fun ⟨y, hy⟩ => ⟨y, by simpa using hy⟩, fun ⟨y, hy⟩ => ⟨y, by rw [hy]; rfl⟩⟩
theorem ext_nil {b : Heap} : Heap.Ext [] b := ⟨b, rfl⟩

theorem dOps_gc {d : Option Nat} {c : COp} {t : Nat} {b : Bool} {l : List CO} : dOps P hk (⟨d, c, some (t, b), true, []⟩ :: l) e h = if isB b (e t) then cStep P hk d h (dOp P hk c e h) l e else dOps P hk l (e.put d .undef) h := by
  rw [dOps_cons, wanted_some]
  by_cases hb : isB b (e t) = true
  · rw [if_pos hb, if_pos hb]
    unfold cStep
    cases dOp P hk c e h with
    | none => rfl
    | some r =>
      obtain ⟨v, h'⟩ := r
      have ha : avoidOK e ⟨d, c, some (t, b), true, []⟩ = true := rfl
      by_cases hx : h.Ext h' <;> simp [ha, hx]
  · rw [if_neg hb, if_neg hb]

theorem dOps_c {d : Option Nat} {c : COp} {l : List CO} : dOps P hk (⟨d, c, none, true, []⟩ :: l) e h = cStep P hk d h (dOp P hk c e h) l e := by
  rw [dOps_cons, wanted_none, if_pos rfl]
  unfold cStep
  cases dOp P hk c e h with
  | none => rfl
  | some r =>
    obtain ⟨v, h'⟩ := r
    have ha : avoidOK e ⟨d, c, none, true, []⟩ = true := rfl
    by_cases hx : h.Ext h' <;> simp [ha, hx]

theorem dOps_av {d : Option Nat} {c : COp} {x : Opd} {xs : List Opd} {l : List CO} : dOps P hk (⟨d, c, none, false, x :: xs⟩ :: l) e h = if avoidOK e ⟨d, c, none, false, x :: xs⟩ = true then dStep P hk d (dOp P hk c e h) l e else match dOp P hk c e h with | some _ => none | none => none := by
  rw [dOps_cons, wanted_none, if_pos rfl]
  unfold dStep
  cases dOp P hk c e h with
  | none => simp
  | some r =>
    obtain ⟨v, h'⟩ := r
    simp only [Bool.false_eq_true, false_and, or_false]
    cases avoidOK e ⟨d, c, none, false, x :: xs⟩ <;> simp

theorem blockOf_slc {b o n c k : Nat} {x : Bool} : blockOf (.slc b o n c k x) = some b := rfl
theorem blockOf_ptr {b o : Nat} : blockOf (.ptr b o) = some b := rfl
theorem blockOf_nils : blockOf .nils = none := rfl
theorem sameBlock_some {a b : Nat} : sameBlock (some a) (some b) = (a == b) := rfl
theorem sameBlock_none {b : Option Nat} : sameBlock none b = false := rfl

theorem Ow.apart {t : TypeId} {k : Nat} {cv : CV} {xs : List (List CV)} {g : Option Nat} (hO : Ow h t k cv xs g) {b : Nat} (hb : g ≠ some b) : sameBlock (blockOf cv) (some b) = false := by
  rcases hO with ⟨rfl, _⟩ | ⟨c, h1, rfl, _⟩
  · rfl
  · subst h1
    simp only [blockOf_slc, sameBlock_some]
    simp at hb ⊢
    exact hb
end

attribute [simp] cStep_some ext_app2 ext_cons ext_nil ext_app ext_self
attribute [simp] dOps_gc dOps_c dOps_av avoidOK COp.addrs blockOf_slc blockOf_ptr blockOf_nils sameBlock_some sameBlock_none
attribute [simp] bits_i64 bits_u64 bits_u8 bits_i32 ld_eq stc_eq ldB_some stcB_some set_new0 set_new at_new at_new0 fillC splice

end Go.Cn
