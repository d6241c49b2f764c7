/- Values of JSON: how they read; slices.Index of texts; the document's key. -/
import Derived.Test.YtlmlpgmpdaepkaaDoorCnRep
import Derived.Test.YtlmlpgmpdaepkaaDoorCdPrint
import Derived.Test.YtlmlpgmpdaepkaaDoorCdParse
set_option linter.unusedSimpArgs false
set_option linter.unusedVariables false
set_option linter.unusedSectionVars false
namespace Go.Cn.D
open Go.Proofs
set_option maxRecDepth 100000

inductive J where
  | mk (kind num : Int) (text : ByteArray) (list : List J) (keys : List ByteArray) (pos : Int)
namespace J
def kind : J → Int | mk k _ _ _ _ _ => k
def num : J → Int | mk _ k _ _ _ _ => k
def text : J → ByteArray | mk _ _ k _ _ _ => k
def list : J → List J | mk _ _ _ k _ _ => k
def keys : J → List ByteArray | mk _ _ _ _ k _ => k
def pos : J → Int | mk _ _ _ _ _ k => k
end J

def strs (ks : List ByteArray) : List (List CV) := ks.map fun s => [.str s]
theorem strs_at {ks : List ByteArray} {i : Nat} {k : ByteArray} (h : ks[i]? = some k) : (strs ks)[i]? = some [.str k] := by simp [strs, h]
theorem strs_len {ks : List ByteArray} : (strs ks).length = ks.length := by simp [strs]

/-- a value of at most so many in each other reads so -/
def RJ : Nat → (Nat → Prop) → Heap → J → List CV → Prop
  | 0, _, _, _, _ => False
  | n + 1, S, H, j, cs => ∃ lcv kcv xs, cs = [.int .i64 j.kind, .int .i64 j.num, .str j.text, lcv, kcv, .int .i64 j.pos] ∧ Sl S H 6 lcv xs ∧ xs.length = j.list.length ∧
      (∀ (i : Nat) x c, j.list[i]? = some x → xs[i]? = some c → RJ n S H x c) ∧ Sl S H 1 kcv (strs j.keys)

theorem RJ.mono {S : Nat → Prop} {H H' : Heap} (hf : ∀ c, c < H.length → ¬ S c → H'[c]? = H[c]?) : ∀ {n : Nat} {j : J} {cs : List CV}, RJ n S H j cs → RJ n S H' j cs
  | 0, _, _, h => h
  | n + 1, j, cs, ⟨lcv, kcv, xs, h1, h2, h3, h4, h5⟩ => ⟨lcv, kcv, xs, h1, h2.mono hf, h3, fun i x c hx hc => RJ.mono hf (h4 i x c hx hc), h5.mono hf⟩

theorem RJ.weak {S T : Nat → Prop} {H : Heap} (hf : ∀ c, c < H.length → T c → S c) : ∀ {n : Nat} {j : J} {cs : List CV}, RJ n S H j cs → RJ n T H j cs
  | 0, _, _, h => h
  | n + 1, j, cs, ⟨lcv, kcv, xs, h1, h2, h3, h4, h5⟩ => ⟨lcv, kcv, xs, h1, h2.weak hf, h3, fun i x c hx hc => RJ.weak hf (h4 i x c hx hc), h5.weak hf⟩

theorem RJ.move {S T : Nat → Prop} {H H' : Heap} (hf : ∀ c, c < H.length → ¬ S c → H'[c]? = H[c]?) (ht : ∀ c, c < H.length → T c → S c) : ∀ {n : Nat} {j : J} {cs : List CV}, RJ n S H j cs → RJ n T H' j cs
  | 0, _, _, h => h
  | n + 1, j, cs, ⟨lcv, kcv, xs, h1, h2, h3, h4, h5⟩ => ⟨lcv, kcv, xs, h1, h2.move hf ht, h3, fun i x c hx hc => RJ.move hf ht (h4 i x c hx hc), h5.move hf ht⟩

theorem RJ.app {S : Nat → Prop} {H G : Heap} {n : Nat} {j : J} {cs : List CV} (h : RJ n S H j cs) : RJ n S (H ++ G) j cs := h.mono fun _ hc _ => List.getElem?_append_left hc

theorem RJ.up {S : Nat → Prop} {H : Heap} : ∀ {n : Nat} {j : J} {cs : List CV}, RJ n S H j cs → RJ (n + 1) S H j cs
  | 0, _, _, h => h.elim
  | n + 1, j, cs, ⟨lcv, kcv, xs, h1, h2, h3, h4, h5⟩ => ⟨lcv, kcv, xs, h1, h2, h3, fun i x c hx hc => (h4 i x c hx hc).up, h5⟩

theorem RJ.len {S : Nat → Prop} {H : Heap} {n : Nat} {j : J} {cs : List CV} (h : RJ n S H j cs) : cs.length = 6 := by
  cases n with
  | zero => exact h.elim
  | succ n => obtain ⟨lcv, kcv, xs, rfl, _⟩ := h; rfl

def optI : Option Nat → Int
  | some i => i
  | none => -1

/-- slices.Index of texts -/
theorem index_loop {S : Nat → Prop} {H : Heap} {kcv : CV} {ks : List ByteArray} {s : ByteArray} (hS : Sl S H 1 kcv (strs ks)) (hb : ks.length < 2 ^ 62) : ∀ (n i : Nat) (e : Env), i + n = ks.length → e 0 = kcv → e 1 = .str s → e 7 = .int .i64 ks.length → e 8 = .int .i64 i →
    ∃ x e', dCode Tryd.prog hookD (.loop c33.l0) e H = some (x, e', H) ∧ (match (ks.drop i).findIdx? (fun k => decide (k = s)) with | some j => x = .ret ∧ e' 4 = .int .i64 ((i + j : Nat) : Int) | none => x = .exit 0) := by
  intro n
  induction n with
  | zero =>
    intro i e hi h0 h1 h7 h8
    have hge : ¬ i < ks.length := by omega
    have key : ∃ e', dCode Tryd.prog hookD c33.l0 e H = some (.exit 0, e', H) := by simp [c33.l0, h7, h8, hge]
    obtain ⟨e', k⟩ := key
    refine ⟨.exit 0, e', by rw [loop_step, k, next_exit], ?_⟩
    rw [List.drop_eq_nil_of_le (by omega)]
    rfl
  | succ n ih =>
    intro i e hi h0 h1 h7 h8
    have hlt : i < ks.length := by omega
    obtain ⟨k, hk⟩ : ∃ k, ks[i]? = some k := ⟨_, List.getElem?_eq_getElem hlt⟩
    obtain ⟨b, o, ha, hld, _⟩ := hS.at (strs_at hk)
    have hdrop : ks.drop i = k :: ks.drop (i + 1) := by
      rw [List.drop_eq_getElem_cons hlt]
      rw [List.getElem?_eq_getElem hlt] at hk
      simp at hk; rw [hk]
    have hw : IntKind.i64.wrap ((i : Int) + 1) = ((i + 1 : Nat) : Int) := by rw [IntKind.wrap_i64]; omega
    rw [hdrop, List.findIdx?_cons]
    by_cases hks : k = s
    · subst hks
      have key : ∃ e', dCode Tryd.prog hookD c33.l0 e H = some (.ret, e', H) ∧ e' 4 = .int .i64 (i : Int) := by simp [c33.l0, h0, h1, h7, h8, hlt, ha, hld]
      obtain ⟨e', k1, k2⟩ := key
      refine ⟨.ret, e', by rw [loop_step, k1, next_ret], ?_⟩
      simp [k2]
    · have hne : ¬ s = k := fun h => hks h.symm
      have key : ∃ e', dCode Tryd.prog hookD c33.l0 e H = some (.normal, e', H) ∧ e' 0 = kcv ∧ e' 1 = .str s ∧ e' 7 = .int .i64 ks.length ∧ e' 8 = .int .i64 ((i + 1 : Nat) : Int) := by simp [c33.l0, h0, h1, h7, h8, hlt, ha, hld, hne, hw]
      obtain ⟨e', k1, k2, k3, k4, k5⟩ := key
      obtain ⟨x, e2, d, hr⟩ := ih (i + 1) e' (by omega) k2 k3 k4 k5
      refine ⟨x, e2, by rw [loop_step, k1, next_normal, d], ?_⟩
      simp only [hks, decide_false]
      cases hq : (ks.drop (i + 1)).findIdx? (fun k => decide (k = s)) with
      | none => rw [hq] at hr; simpa using hr
      | some j =>
        rw [hq] at hr
        simp only [Bool.false_eq_true, if_false, Option.map_some]
        refine ⟨hr.1, ?_⟩
        rw [hr.2]
        congr 1
        omega

theorem index_run {S : Nat → Prop} {H : Heap} {kcv : CV} {ks : List ByteArray} {s : ByteArray} (hS : Sl S H 1 kcv (strs ks)) (hb : ks.length < 2 ^ 62) : den Tryd.prog hookD 33 [kcv, .str s] H = some (.int .i64 (optI (ks.findIdx? (fun k => decide (k = s)))), H) := by
  rw [den_of (hdN (by decide) _ _) k33 (by simp [c33])]
  have hl := fun h => hS.len (h := h)
  simp only [strs_len] at hl
  obtain ⟨x, e', d, hr⟩ := index_loop (s := s) hS hb ks.length 0 (((((initEnv [kcv, .str s]).put (some 4) (.int .i64 0)).put (some 6) kcv).put (some 7) (.int .i64 ks.length)).put (some 8) (.int .i64 0)) (by omega) (by simp) (by simp) (by simp) (by simp)
  simp [c33, c33.body, hl, d]
  simp only [List.drop_zero] at hr
  split at hr
  · obtain ⟨rfl, h4⟩ := hr
    rename_i j hj
    simp [hj, h4, optI]
  · rename_i hj
    subst hr
    simp [hj, optI]

end Go.Cn.D
