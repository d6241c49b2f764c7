/- The texts of JsonDeep, and what the program's reader says of them. -/
import Derived.Test.YtlmlpgmpdaepkaaDoorCdPr
set_option linter.unusedSimpArgs false
set_option linter.unusedVariables false
set_option linter.unusedSectionVars false
namespace Go.Cn.D
open Go.Proofs
set_option maxRecDepth 100000

def tB (l : List UInt8) : ByteArray := ⟨l.toArray⟩
theorem tB_add (a b : List UInt8) : tB a ++ tB b = tB (a ++ b) := by
  apply ByteArray.ext
  simp [tB, ByteArray.data_append]
theorem tB_bs (l : List Nat) : bs l = tB (l.map UInt8.ofNat) := rfl
theorem tB_size (l : List UInt8) : (tB l).size = l.length := rfl
theorem tB_at (l : List UInt8) (i : Nat) : byteAt (tB l) i = (l[i]?).getD 0 := by simp [byteAt, tB]

def rep (l : List UInt8) : Nat → List UInt8
  | 0 => []
  | k + 1 => rep l k ++ l
def per (l : List UInt8) : Nat → List UInt8
  | 0 => []
  | k + 1 => l ++ per l k
theorem rep_len {l : List UInt8} : ∀ {k : Nat}, (rep l k).length = l.length * k
  | 0 => rfl
  | k + 1 => by simp [rep, rep_len, Nat.mul_succ]
theorem per_len {l : List UInt8} : ∀ {k : Nat}, (per l k).length = l.length * k
  | 0 => rfl
  | k + 1 => by simp [per, per_len, Nat.mul_succ, Nat.add_comm]
theorem rep_at {l : List UInt8} {j : Nat} (hj : j < l.length) : ∀ {k q : Nat}, q < k → (rep l k)[l.length * q + j]? = l[j]? := by
  intro k
  induction k with
  | zero => intro q h; omega
  | succ k ih =>
    intro q h
    simp only [rep]
    by_cases hq : q < k
    · rw [List.getElem?_append_left (by rw [rep_len]; calc l.length * q + j < l.length * q + l.length := by omega
        _ = l.length * (q + 1) := by rw [Nat.mul_succ]
        _ ≤ l.length * k := Nat.mul_le_mul_left _ hq)]
      exact ih hq
    · have : q = k := by omega
      subst this
      rw [List.getElem?_append_right (by rw [rep_len]; omega), rep_len]
      congr 1
      omega
theorem per_one {c : UInt8} : ∀ {k q : Nat}, q < k → (per [c] k)[q]? = some c := by
  intro k
  induction k with
  | zero => intro q h; omega
  | succ k ih =>
    intro q h
    cases q with
    | zero => rfl
    | succ q => exact ih (by omega)

def opnL (maps : Bool) : List UInt8 := if maps then [123, 34, 97, 34, 58] else [91]
def clsL (maps : Bool) : List UInt8 := if maps then [125] else [93]
def midL (maps : Bool) (d : Nat) : List UInt8 := if d = 0 ∨ maps = true then [49] else []
def deepL (maps : Bool) (d : Nat) : List UInt8 := rep (opnL maps) d ++ midL maps d ++ per (clsL maps) d
def longL (n : Nat) : List UInt8 := [91, 34] ++ rep [120] n ++ [34, 93]

theorem deep_maps {d : Nat} : (deepL true d).length = 6 * d + 1 ∧ (∀ q, q < d → byteAt (tB (deepL true d)) (5 * q) = 123 ∧ byteAt (tB (deepL true d)) (5 * q + 1) = 34 ∧ byteAt (tB (deepL true d)) (5 * q + 2) = 97 ∧ byteAt (tB (deepL true d)) (5 * q + 3) = 34 ∧ byteAt (tB (deepL true d)) (5 * q + 4) = 58) ∧ byteAt (tB (deepL true d)) (5 * d) = 49 ∧ (∀ q, q < d → byteAt (tB (deepL true d)) (5 * d + 1 + q) = 125) := by
  have hl : (rep (opnL true) d).length = 5 * d := rep_len
  have hp : (per (clsL true) d).length = 1 * d := per_len
  have hm : midL true d = [49] := by simp [midL]
  have h : ∀ q j, q < d → j < 5 → byteAt (tB (deepL true d)) (5 * q + j) = ((opnL true)[j]?).getD 0 := by
    intro q j hq hj
    rw [tB_at, deepL, List.append_assoc, List.getElem?_append_left (by rw [hl]; omega)]
    congr 1
    exact rep_at (l := opnL true) hj hq
  refine ⟨?_, fun q hq => ⟨h q 0 hq (by omega), h q 1 hq (by omega), h q 2 hq (by omega), h q 3 hq (by omega), h q 4 hq (by omega)⟩, ?_, fun q hq => ?_⟩
  · simp only [deepL, List.length_append, hl, hp, hm, List.length_cons, List.length_nil]
    omega
  · rw [tB_at, deepL, List.append_assoc, List.getElem?_append_right (by rw [hl]; exact Nat.le_refl _), hl, hm]
    simp
  · rw [tB_at, deepL, hm, List.getElem?_append_right (by simp [hl]), List.length_append, hl]
    simp only [List.length_cons, List.length_nil, Nat.zero_add, Nat.add_sub_cancel_left]
    rw [clsL, if_pos rfl, per_one hq]
    rfl

theorem deep_lists {d : Nat} (hd : 0 < d) : (deepL false d).length = 2 * d ∧ (∀ q, q < d → byteAt (tB (deepL false d)) q = 91) ∧ (∀ q, d ≤ q → q < 2 * d → byteAt (tB (deepL false d)) q = 93) := by
  have hl : (rep (opnL false) d).length = 1 * d := rep_len
  have hp : (per (clsL false) d).length = 1 * d := per_len
  have hm : midL false d = [] := by simp [midL]; omega
  refine ⟨?_, fun q hq => ?_, fun q h1 h2 => ?_⟩
  · simp only [deepL, List.length_append, hl, hp, hm, List.length_nil]
    omega
  · rw [tB_at, deepL, List.append_assoc, List.getElem?_append_left (by rw [hl]; omega)]
    have := rep_at (l := opnL false) (j := 0) (by decide) hq
    simp only [opnL, Bool.false_eq_true, if_false, List.length_cons, List.length_nil, Nat.zero_add, Nat.one_mul, Nat.add_zero] at this ⊢
    rw [this]
    rfl
  · rw [tB_at, deepL, hm, List.append_nil, List.getElem?_append_right (by rw [hl]; omega), hl]
    rw [clsL, if_neg (by simp), per_one (by omega)]
    rfl

theorem long_at {n : Nat} : (longL n).length = n + 4 ∧ byteAt (tB (longL n)) 0 = 91 ∧ byteAt (tB (longL n)) 1 = 34 ∧ (∀ q, q < n → byteAt (tB (longL n)) (2 + q) = ((rep [120] n)[q]?).getD 0) ∧ byteAt (tB (longL n)) (n + 2) = 34 ∧ byteAt (tB (longL n)) (n + 3) = 93 := by
  have hl : (rep [120] n).length = 1 * n := rep_len
  refine ⟨?_, rfl, rfl, fun q hq => ?_, ?_, ?_⟩
  · simp [longL, hl]
  · rw [tB_at, longL, List.append_assoc, List.getElem?_append_right (by simp), List.getElem?_append_left (by simp [hl]; omega)]
    congr 2
    simp
  · rw [tB_at, longL, List.getElem?_append_right (by simp [hl])]
    have : n + 2 - ([91, 34] ++ rep [120] n).length = 0 := by simp [hl]
    rw [this]
    rfl
  · rw [tB_at, longL, List.getElem?_append_right (by simp [hl])]
    have : n + 3 - ([91, 34] ++ rep [120] n).length = 1 := by simp [hl]
    rw [this]
    rfl

def tK (l : List UInt8) : Blk := { cells := cellsOfStr (tB l), st := .live }
def jZ : List CV := [.int .i64 0, .int .i64 0, .str (bs []), .nils, .nils, .int .i64 0]

theorem parse_deep {H : Heap} {maps : Bool} {d : Nat} (hd : d ≤ 127) : ∃ cs ek ea H', den Tryd.prog hookG 13 [.slc H.length 0 (deepL maps d).length (deepL maps d).length 1 false] (H ++ [tK (deepL maps d)]) = some (.tup [.agg cs, .agg [.int .i64 ek, .int .i64 ea]], H') ∧ cs.length = 6 ∧ Fr (fun _ => False) H H' ∧ (64 < d → cs = jZ ∧ ek = 2 ∧ ea = if maps then 320 else 64) ∧ (d ≤ 64 → ek = 0) := by
  have hr : (H ++ [tK (deepL maps d)])[H.length]? = some (tK (deepL maps d)) := at_new0
  have key : ∃ cs H6, den Tryd.prog hookG 28 [.ptr ((H ++ [tK (deepL maps d)]).length + 4) 0, .int .i64 0] (jH (H ++ [tK (deepL maps d)]) H.length (tB (deepL maps d))) = some (.agg cs, H6) ∧ VE (jH (H ++ [tK (deepL maps d)]) H.length (tB (deepL maps d))) ((H ++ [tK (deepL maps d)]).length + 4) H.length (tB (deepL maps d)) (if 64 < d then (if maps then 320 else 64) else (deepL maps d).length) (if 64 < d then 2 else 0) (if 64 < d then (if maps then 320 else 64) else 0) cs H6 := by
    have P := jH_pr hr
    cases maps with
    | true =>
      obtain ⟨h1, h2, h3, h4⟩ := deep_maps (d := d)
      obtain ⟨cs, H6, dv, V⟩ := maps_deep (T := tB (deepL true d)) (by omega) h1 h2 h3 h4 d 0 0 _ (by omega) (by omega) rfl P
      have : 5 * d + 1 + d = (deepL true d).length := by omega
      rw [this] at V
      exact ⟨cs, H6, dv, V⟩
    | false =>
      cases d with
      | zero =>
        obtain ⟨cs, H6, dv, V⟩ := value_one (d := 0) (j := 1) P (by decide) rfl rfl rfl (.inl rfl) (by decide)
        exact ⟨cs, H6, dv, V⟩
      | succ d =>
        obtain ⟨h1, h2, h3⟩ := deep_lists (d := d + 1) (by omega)
        obtain ⟨cs, H6, dv, V⟩ := lists_deep (T := tB (deepL false (d + 1))) (by omega) h1 h2 h3 (d + 1) 0 _ (by omega) (by omega) (by omega) P
        have : 2 * (d + 1) - 0 = (deepL false (d + 1)).length := by omega
        rw [this] at V
        exact ⟨cs, H6, dv, V⟩
  obtain ⟨cs, H6, dv, V⟩ := key
  have hlen : (deepL maps d).length ≤ 6 * d + 1 := by
    cases maps with
    | true => exact Nat.le_of_eq deep_maps.1
    | false => cases d with
      | zero => decide
      | succ d => have := (deep_lists (d := d + 1) (by omega)).1; omega
  obtain ⟨H', dp, F, _⟩ := jparse_run (T := tB (deepL maps d)) (by rw [tB_size]; omega) hr dv V (by
    by_cases h : 64 < d
    · simp [h]
    · right
      simp only [h, if_false]
      exact ⟨trivial, trivial, rfl⟩)
  refine ⟨_, _, _, H', dp, ?_, (Fr.push (S := fun _ => False) [tK (deepL maps d)]).trans F fun _ _ h => h, fun h => ?_, fun h => ?_⟩
  · by_cases h : 64 < d
    · simp [h]
    · simp [h, V.len]
  · simp [h, jZ]
  · simp; omega

theorem parse_long {H : Heap} {n : Nat} (hn : n ≤ 511) : ∃ cs ek ea H', den Tryd.prog hookG 13 [.slc H.length 0 (longL n).length (longL n).length 1 false] (H ++ [tK (longL n)]) = some (.tup [.agg cs, .agg [.int .i64 ek, .int .i64 ea]], H') ∧ cs.length = 6 ∧ (255 < n → ek = 2 ∧ ea = 1) ∧ (n ≤ 255 → ek = 0 ∧ ea = 0 ∧ ∃ g s C, g < H'.length ∧ cs = [.int .i64 6, .int .i64 0, .str (bs []), .slc g 0 1 1 6 false, .nils, .int .i64 0] ∧ s.size = n ∧ H'[g]? = some { cells := [.int .i64 5, .int .i64 0, .str s, .nils, .nils, .int .i64 1], st := .live, el := C }) := by
  have hr : (H ++ [tK (longL n)])[H.length]? = some (tK (longL n)) := at_new0
  have P := jH_pr hr
  obtain ⟨h1, h2, h3, h4, h5, h6⟩ := long_at (n := n)
  have hl : (rep [120] n).length = n := by rw [rep_len]; simp
  obtain ⟨g, H6, C, dv, V, hg, hgl⟩ := list_of_text (T := tB (longL n)) (s := rep [120] n) P (by rw [tB_size, h1, hl]) (by rw [tB_size, h1]; omega) h2 h3 (by
    have : ∀ k, ∀ c ∈ rep [120] k, plainB c = true := by
      intro k
      induction k with
      | zero => simp [rep]
      | succ k ih =>
        intro c hc
        simp only [rep, List.mem_append, List.mem_singleton] at hc
        rcases hc with hc | rfl
        · exact ih c hc
        · rfl
    exact this n) (by rw [hl]; exact h4) (by rw [hl]; exact h5) (by rw [hl]; exact h6)
  rw [hl] at V
  obtain ⟨H', dp, F, hold⟩ := jparse_run (T := tB (longL n)) (by rw [tB_size, h1]; omega) hr dv V (by
    by_cases h : 255 < n
    · simp [longE, h]
    · simp only [longE, h, if_false]
      exact .inr ⟨trivial, trivial, trivial⟩)
  refine ⟨_, _, _, H', dp, ?_, fun h => ?_, fun h => ?_⟩
  · by_cases h : 255 < n <;> simp [longE, h]
  · simp [longE, h]
  · have h' : ¬ 255 < n := by omega
    have hgl6 := lt_of_get hg
    simp only [jH, List.length_append, List.length_cons, List.length_nil] at hgl
    have hk := hold g (by simp; omega) hgl6
    simp only [longE, h', if_false]
    exact ⟨trivial, trivial, g, tB (rep [120] n), C, by rw [hg] at hk; exact lt_of_get hk, rfl, by rw [tB_size, hl], by rw [hk]; exact hg⟩

end Go.Cn.D

/- JsonDeep: the walk. -/
namespace Go.Cn.D
open Go.Proofs
set_option maxRecDepth 100000

theorem opn_size {maps : Bool} {k : Nat} (hk : k ≤ 127) : (tB (rep (opnL maps) k)).size ≤ 635 := by
  rw [tB_size, rep_len]
  cases maps
  · show 1 * k ≤ 635
    omega
  · show 5 * k ≤ 635
    omega
theorem cls_size {maps : Bool} {k : Nat} (hk : k ≤ 127) : (tB (per (clsL maps) k)).size ≤ 127 := by
  rw [tB_size, per_len]
  cases maps
  · show 1 * k ≤ 127
    omega
  · show 1 * k ≤ 127
    omega

theorem deep_round {e : Env} {H : Heap} {maps : Bool} {d k : Nat} (hk : k < d) (hd : d ≤ 127) (e0 : e 0 = .int .i64 d) (e1 : e 1 = .bool maps) (e7 : e 7 = .str (tB (rep (opnL maps) k))) (e8 : e 8 = .str (tB (per (clsL maps) k))) (e9 : e 9 = .int .i64 k) :
    ∃ e', dCode Tryd.prog hookG c5.l0 e H = some (.normal, e', H) ∧ e' 0 = e 0 ∧ e' 1 = e 1 ∧ e' 2 = e 2 ∧ e' 7 = .str (tB (rep (opnL maps) (k + 1))) ∧ e' 8 = .str (tB (per (clsL maps) (k + 1))) ∧ e' 9 = .int .i64 ((k + 1 : Nat) : Int) := by
  have hkI : (k : Int) < d := by omega
  have hw : IntKind.i64.wrap ((k : Int) + 1) = ((k + 1 : Nat) : Int) := by rw [IntKind.wrap_i64]; omega
  push_cast at hw
  have z1 := opn_size (maps := maps) (k := k) (by omega)
  have z2 := cls_size (maps := maps) (k := k) (by omega)
  cases maps with
  | true =>
    have a1 : tB (rep (opnL true) k) ++ bs [123, 34, 97, 34, 58] = tB (rep (opnL true) (k + 1)) := by rw [tB_bs, tB_add]; rfl
    have a2 : bs [125] ++ tB (per (clsL true) k) = tB (per (clsL true) (k + 1)) := by rw [tB_bs, tB_add]; rfl
    have y1 : ¬ (9223372036854775807 : Int) < ((tB (rep (opnL true) k)).size : Int) + ((bs [123, 34, 97, 34, 58]).size : Int) := by
      have : (bs [123, 34, 97, 34, 58]).size = 5 := rfl
      omega
    have y2 : ¬ (9223372036854775807 : Int) < ((bs [125]).size : Int) + ((tB (per (clsL true) k)).size : Int) := by
      have : (bs [125]).size = 1 := rfl
      omega
    simp [c5.l0, e0, e1, e7, e8, e9, hk, hkI, hw, a1, a2, y1, y2]
  | false =>
    have a1 : tB (rep (opnL false) k) ++ bs [91] = tB (rep (opnL false) (k + 1)) := by rw [tB_bs, tB_add]; rfl
    have a2 : bs [93] ++ tB (per (clsL false) k) = tB (per (clsL false) (k + 1)) := by rw [tB_bs, tB_add]; rfl
    have y1 : ¬ (9223372036854775807 : Int) < ((tB (rep (opnL false) k)).size : Int) + ((bs [91]).size : Int) := by
      have : (bs [91]).size = 1 := rfl
      omega
    have y2 : ¬ (9223372036854775807 : Int) < ((bs [93]).size : Int) + ((tB (per (clsL false) k)).size : Int) := by
      have : (bs [93]).size = 1 := rfl
      omega
    simp [c5.l0, e0, e1, e7, e8, e9, hk, hkI, hw, a1, a2, y1, y2]

theorem deep_loop {H : Heap} {maps : Bool} {d : Nat} (hd : d ≤ 127) : ∀ (n k : Nat) (e : Env), k + n = d → e 0 = .int .i64 d → e 1 = .bool maps → e 7 = .str (tB (rep (opnL maps) k)) → e 8 = .str (tB (per (clsL maps) k)) → e 9 = .int .i64 k →
    ∃ e', dCode Tryd.prog hookG (.loop c5.l0) e H = some (.exit 0, e', H) ∧ e' 0 = e 0 ∧ e' 1 = e 1 ∧ e' 2 = e 2 ∧ e' 7 = .str (tB (rep (opnL maps) d)) ∧ e' 8 = .str (tB (per (clsL maps) d)) := by
  intro n
  induction n with
  | zero =>
    intro k e hk e0 e1 e7 e8 e9
    obtain rfl : k = d := by omega
    have key : ∃ e', dCode Tryd.prog hookG c5.l0 e H = some (.exit 0, e', H) ∧ e' 0 = e 0 ∧ e' 1 = e 1 ∧ e' 2 = e 2 ∧ e' 7 = e 7 ∧ e' 8 = e 8 := by simp [c5.l0, e0, e9]
    obtain ⟨e', a, b0, b1, b2, b7, b8⟩ := key
    exact ⟨e', by rw [loop_step, a, next_exit], b0, b1, b2, b7.trans e7, b8.trans e8⟩
  | succ n ih =>
    intro k e hk e0 e1 e7 e8 e9
    obtain ⟨e', a, b0, b1, b2, b7, b8, b9⟩ := deep_round (H := H) (by omega) hd e0 e1 e7 e8 e9
    obtain ⟨e'', a', d0, d1, d2, d7, d8⟩ := ih (k + 1) e' (by omega) (b0.trans e0) (b1.trans e1) b7 b8 b9
    exact ⟨e'', by rw [loop_step, a, next_normal, a'], d0.trans b0, d1.trans b1, d2.trans b2, d7, d8⟩

theorem long_loop {H : Heap} {d : Nat} (hd : d ≤ 511) : ∀ (n k : Nat) (e : Env), k + n = d → e 2 = .int .i64 d → e 13 = .str (tB ([91, 34] ++ rep [120] k)) → e 14 = .int .i64 k →
    ∃ e', dCode Tryd.prog hookG (.loop c5.l1) e H = some (.exit 2, e', H) ∧ e' 2 = e 2 ∧ e' 13 = .str (tB ([91, 34] ++ rep [120] d)) := by
  intro n
  induction n with
  | zero =>
    intro k e hk e2 e13 e14
    obtain rfl : k = d := by omega
    have key : ∃ e', dCode Tryd.prog hookG c5.l1 e H = some (.exit 2, e', H) ∧ e' 2 = e 2 ∧ e' 13 = e 13 := by simp [c5.l1, e2, e14]
    obtain ⟨e', a, b2, b13⟩ := key
    exact ⟨e', by rw [loop_step, a, next_exit], b2, b13.trans e13⟩
  | succ n ih =>
    intro k e hk e2 e13 e14
    have hkI : (k : Int) < d := by omega
    have hkN : k < d := by omega
    have hw : IntKind.i64.wrap ((k : Int) + 1) = ((k + 1 : Nat) : Int) := by rw [IntKind.wrap_i64]; omega
    push_cast at hw
    have a1 : tB ([91, 34] ++ rep [120] k) ++ bs [120] = tB ([91, 34] ++ rep [120] (k + 1)) := by
      rw [tB_bs, tB_add, List.append_assoc]
      rfl
    have key : ∃ e', dCode Tryd.prog hookG c5.l1 e H = some (.normal, e', H) ∧ e' 2 = e 2 ∧ e' 13 = .str (tB ([91, 34] ++ rep [120] (k + 1))) ∧ e' 14 = .int .i64 ((k + 1 : Nat) : Int) := by
      have y1 : ¬ (9223372036854775807 : Int) < ((tB ([91, 34] ++ rep [120] k)).size : Int) + ((bs [120]).size : Int) := by
        have h1 : (bs [120]).size = 1 := rfl
        have h2 : (tB ([91, 34] ++ rep [120] k)).size = 2 + 1 * k := by rw [tB_size, List.length_append, rep_len]; rfl
        omega
      simp only [List.cons_append, List.nil_append] at e13 a1 y1 ⊢
      simp [c5.l1, e2, e13, e14, hkI, hkN, hw, a1, y1]
    obtain ⟨e', a, b2, b13, b14⟩ := key
    obtain ⟨e'', a', d2, d13⟩ := ih (k + 1) e' (by omega) (b2.trans e2) b13 b14
    exact ⟨e'', by rw [loop_step, a, next_normal, a'], d2.trans b2, d13⟩

theorem eq2 (a b : Int) : eqCells [LK.int, LK.int] [.int .i64 a, .int .i64 b] [.int .i64 a, .int .i64 b] = some true := by simp [eqCells, CV.eq1]

theorem s1_run {e : Env} {H : Heap} {n : Nat} (hn : n ≤ 511) (e2 : e 2 = .int .i64 n) (e13 : e 13 = .str (bs [91, 34])) : ∃ H', fin c5.res (dCode Tryd.prog hookG c5.s1 e H) = some (.bool true, H') := by
  obtain ⟨F, hF⟩ := choose_fn (p := fun (e : Env) (e' : Env) => e 2 = .int .i64 n → e 13 = .str (bs [91, 34]) → e 14 = .int .i64 0 → dCode Tryd.prog hookG (.loop c5.l1) e H = some (.exit 2, e', H) ∧ e' 2 = .int .i64 n ∧ e' 13 = .str (tB ([91, 34] ++ rep [120] n))) fun e => by
    by_cases hq : e 2 = .int .i64 n ∧ e 13 = .str (bs [91, 34]) ∧ e 14 = .int .i64 0
    · obtain ⟨e', a, b, c⟩ := long_loop (H := H) hn n 0 e (by omega) hq.1 (by rw [hq.2.1]; rfl) hq.2.2
      exact ⟨e', fun _ _ _ => ⟨a, b.trans hq.1, c⟩⟩
    · exact ⟨e, fun a b c => absurd ⟨a, b, c⟩ hq⟩
  have f1 := fun e a b c => (hF e a b c).1
  have f2 := fun e a b c => (hF e a b c).2.1
  have f3 := fun e a b c => (hF e a b c).2.2
  obtain ⟨cs, ek, ea, H1, dp, hcl, hbig, hsm⟩ := parse_long (H := H) hn
  have hct : cs.take 6 = cs := List.take_of_length_le (Nat.le_of_eq hcl)
  have h14 := hG14
  have hll : (longL n).length = n + 4 := long_at.1
  have ha : tB ([91, 34] ++ rep [120] n) ++ bs [34, 93] = tB (longL n) := by rw [tB_bs, tB_add]; rfl
  have hy : ¬ (9223372036854775807 : Int) < ((tB ([91, 34] ++ rep [120] n)).size : Int) + ((bs [34, 93]).size : Int) := by
    have h1 : (bs [34, 93]).size = 2 := rfl
    have h2 : (tB ([91, 34] ++ rep [120] n)).size = 2 + 1 * n := by rw [tB_size, List.length_append, rep_len]; rfl
    omega
  have hcap : (longL n).length ≤ capB := by rw [hll]; unfold capB; omega
  have hsz : (tB (longL n)).size = (longL n).length := rfl
  simp only [tK] at dp
  simp only [List.cons_append, List.nil_append] at ha hy f3
  by_cases hb : 255 < n
  · obtain ⟨rfl, rfl⟩ := hbig hb
    have hbI : (255 : Int) < n := by omega
    exact ⟨_, by simp [c5.s1, e2, e13, f1, f2, f3, ha, hy, hcap, hsz, dp, hct, hcl, hb, hbI, h14, eq2, valB_eq]; rfl⟩
  · obtain ⟨rfl, rfl, g, s, C, hgl, rfl, hs, hg⟩ := hsm (by omega)
    have hbI : ¬ (255 : Int) < n := by omega
    have hg' : ∀ l, (H1 ++ l)[g]? = some { cells := [.int .i64 5, .int .i64 0, .str s, .nils, .nils, .int .i64 1], st := .live, el := C } := fun l => get_push hg
    exact ⟨_, by simp [c5.s1, e2, e13, f1, f2, f3, ha, hy, hcap, hsz, dp, hb, hbI, h14, hg', hs]; rfl⟩

theorem s0_run {e : Env} {H : Heap} {maps : Bool} {d n : Nat} (hd : d ≤ 127) (hn : n ≤ 511) (e0 : e 0 = .int .i64 d) (e1 : e 1 = .bool maps) (e2 : e 2 = .int .i64 n) (e7 : e 7 = .str (bs [])) (e8 : e 8 = .str (bs [])) : ∃ H', fin c5.res (dCode Tryd.prog hookG c5.s0 e H) = some (.bool true, H') := by
  obtain ⟨F, hF⟩ := choose_fn (p := fun (e : Env) (e' : Env) => e 0 = .int .i64 d → e 1 = .bool maps → e 2 = .int .i64 n → e 7 = .str (bs []) → e 8 = .str (bs []) → e 9 = .int .i64 0 → dCode Tryd.prog hookG (.loop c5.l0) e H = some (.exit 0, e', H) ∧ e' 0 = .int .i64 d ∧ e' 1 = .bool maps ∧ e' 2 = .int .i64 n ∧ e' 7 = .str (tB (rep (opnL maps) d)) ∧ e' 8 = .str (tB (per (clsL maps) d))) fun e => by
    by_cases hq : e 0 = .int .i64 d ∧ e 1 = .bool maps ∧ e 2 = .int .i64 n ∧ e 7 = .str (bs []) ∧ e 8 = .str (bs []) ∧ e 9 = .int .i64 0
    · obtain ⟨q0, q1, q2, q7, q8, q9⟩ := hq
      obtain ⟨e', a, b0, b1, b2, b7, b8⟩ := deep_loop (H := H) hd d 0 e (by omega) q0 q1 q7 q8 q9
      exact ⟨e', fun _ _ _ _ _ _ => ⟨a, b0.trans q0, b1.trans q1, b2.trans q2, b7, b8⟩⟩
    · exact ⟨e, fun a b c d f g => absurd ⟨a, b, c, d, f, g⟩ hq⟩
  have f1 := fun e a b c d f g => (hF e a b c d f g).1
  have f0 := fun e a b c d f g => (hF e a b c d f g).2.1
  have f1' := fun e a b c d f g => (hF e a b c d f g).2.2.1
  have f2 := fun e a b c d f g => (hF e a b c d f g).2.2.2.1
  have f7 := fun e a b c d f g => (hF e a b c d f g).2.2.2.2.1
  have f8 := fun e a b c d f g => (hF e a b c d f g).2.2.2.2.2
  obtain ⟨K, hK⟩ := choose_fn (p := fun (q : Env × Heap) (H' : Heap) => q.1 2 = .int .i64 n → q.1 13 = .str (bs [91, 34]) → fin c5.res (dCode Tryd.prog hookG c5.s1 q.1 q.2) = some (.bool true, H')) fun q => by
    by_cases hq : q.1 2 = .int .i64 n ∧ q.1 13 = .str (bs [91, 34])
    · obtain ⟨H', h⟩ := s1_run (H := q.2) hn hq.1 hq.2
      exact ⟨H', fun _ _ => h⟩
    · exact ⟨[], fun a b => absurd ⟨a, b⟩ hq⟩
  have hs1 : ∀ (e : Env) (H : Heap), e 2 = .int .i64 n → e 13 = .str (bs [91, 34]) → fin c5.res (dCode Tryd.prog hookG c5.s1 e H) = some (.bool true, K (e, H)) := fun e H a b => hK (e, H) a b
  obtain ⟨cs, ek, ea, H1, dp, hcl, _, hbig, hsm⟩ := parse_deep (H := H) (maps := maps) hd
  have hct : cs.take 6 = cs := List.take_of_length_le (Nat.le_of_eq hcl)
  have hll : (deepL maps d).length ≤ 763 := by
    have h1 := opn_size (maps := maps) hd
    have h2 := cls_size (maps := maps) hd
    rw [tB_size] at h1 h2
    have h3 : (midL maps d).length ≤ 1 := by unfold midL; split <;> simp
    simp only [deepL, List.length_append]
    omega
  have hcap : (deepL maps d).length ≤ capB := by unfold capB; omega
  have hsz : (tB (deepL maps d)).size = (deepL maps d).length := rfl
  have z1 := opn_size (maps := maps) hd
  have z2 := cls_size (maps := maps) hd
  have y1 : ¬ (9223372036854775807 : Int) < ((tB (rep (opnL maps) d)).size : Int) + ((bs [49]).size : Int) := by
    have : (bs [49]).size = 1 := rfl
    omega
  have y2 : ¬ (9223372036854775807 : Int) < ((tB (rep (opnL maps) d)).size : Int) + ((tB (per (clsL maps) d)).size : Int) := by omega
  have y3 : ¬ (9223372036854775807 : Int) < ((tB (rep (opnL maps) d ++ [49])).size : Int) + ((tB (per (clsL maps) d)).size : Int) := by
    have : (tB (rep (opnL maps) d ++ [49])).size = (tB (rep (opnL maps) d)).size + 1 := by simp [tB_size]
    omega
  have a1 : tB (rep (opnL maps) d) ++ bs [49] = tB (rep (opnL maps) d ++ [49]) := by rw [tB_bs, tB_add]; rfl
  have a2 : maps = true ∨ d = 0 → tB (rep (opnL maps) d ++ [49]) ++ tB (per (clsL maps) d) = tB (deepL maps d) := fun h => by
    have : midL maps d = [49] := by simp only [midL]; rw [if_pos h.symm]
    rw [tB_add, deepL, this]
  have a3 : maps = false → 0 < d → tB (rep (opnL maps) d) ++ tB (per (clsL maps) d) = tB (deepL maps d) := fun h h0 => by
    have : midL maps d = [] := by simp only [midL]; rw [if_neg (by simp [h]; omega)]
    rw [tB_add, deepL, this, List.append_nil]
  simp only [tK] at dp
  by_cases hb : 64 < d
  · obtain ⟨rfl, rfl, rfl⟩ := hbig hb
    have hbI : (64 : Int) < d := by omega
    have hbI' : ¬ (d : Int) ≤ 64 := by omega
    have hbN' : ¬ d ≤ 64 := by omega
    have hne : ((d : Int) = 0) = False := by simp; omega
    have hne' : (d = 0) = False := by simp; omega
    cases maps with
    | true =>
      have a2 := a2 (.inl rfl)
      simp only [if_true] at dp
      exact ⟨_, by simp [c5.s0, e0, e1, e2, e7, e8, f1, f0, f1', f2, f7, f8, a1, a2, y1, y3, hcap, hsz, dp, jZ, hb, hbI, hbI', hbN', hs1, eq2, valB_eq, hne, hne']; rfl⟩
    | false =>
      have a3 := a3 rfl (by omega)
      simp only [Bool.false_eq_true, if_false] at dp
      exact ⟨_, by simp [c5.s0, e0, e1, e2, e7, e8, f1, f0, f1', f2, f7, f8, a3, y2, hcap, hsz, dp, jZ, hb, hbI, hbI', hbN', hs1, eq2, valB_eq, hne, hne']; rfl⟩
  · obtain rfl := hsm (by omega)
    have hbI : ¬ (64 : Int) < d := by omega
    have hbI' : (d : Int) ≤ 64 := by omega
    have hbN' : d ≤ 64 := by omega
    cases maps with
    | true =>
      have a2 := a2 (.inl rfl)
      by_cases h0 : d = 0
      · have hne : ((d : Int) = 0) = True := by simp; omega
        have hne' : (d = 0) = True := by simp; omega
        exact ⟨_, by simp [c5.s0, e0, e1, e2, e7, e8, f1, f0, f1', f2, f7, f8, a1, a2, y1, y3, hcap, hsz, dp, hct, hcl, hb, hbI, hbI', hbN', hs1, eq2, valB_eq, hne, hne']; rfl⟩
      · have hne : ((d : Int) = 0) = False := by simp; omega
        have hne' : (d = 0) = False := by simp; omega
        exact ⟨_, by simp [c5.s0, e0, e1, e2, e7, e8, f1, f0, f1', f2, f7, f8, a1, a2, y1, y3, hcap, hsz, dp, hct, hcl, hb, hbI, hbI', hbN', hs1, eq2, valB_eq, hne, hne']; rfl⟩
    | false =>
      by_cases h0 : d = 0
      · have hne : ((d : Int) = 0) = True := by simp; omega
        have hne' : (d = 0) = True := by simp; omega
        have a2 := a2 (.inr h0)
        exact ⟨_, by simp [c5.s0, e0, e1, e2, e7, e8, f1, f0, f1', f2, f7, f8, a1, a2, y1, y3, hcap, hsz, dp, hct, hcl, hb, hbI, hbI', hbN', hs1, eq2, valB_eq, hne, hne']; rfl⟩
      · have hne : ((d : Int) = 0) = False := by simp; omega
        have hne' : (d = 0) = False := by simp; omega
        have a3 := a3 rfl (by omega)
        exact ⟨_, by simp [c5.s0, e0, e1, e2, e7, e8, f1, f0, f1', f2, f7, f8, a3, y2, hcap, hsz, dp, hct, hcl, hb, hbI, hbI', hbN', hs1, eq2, valB_eq, hne, hne']; rfl⟩

end Go.Cn.D

/- JsonDeep: the whole function. -/
namespace Go.Cn.D
open Go.Proofs
set_option maxRecDepth 100000

theorem jsonDeep_run {a b : Int} {m : Bool} : ∃ H', den Tryd.prog hookG 5 [.int .i64 a, .bool m, .int .i64 b] [] = some (.bool true, H') := by
  obtain ⟨d0, d1⟩ := and_le a 127 (by decide)
  obtain ⟨n0, n1⟩ := and_le b 511 (by decide)
  obtain ⟨d, hd⟩ : ∃ d : Nat, ibits .and .i64 a 127 = (d : Int) := ⟨_, (Int.toNat_of_nonneg d0).symm⟩
  obtain ⟨n, hn⟩ : ∃ n : Nat, ibits .and .i64 b 511 = (n : Int) := ⟨_, (Int.toNat_of_nonneg n0).symm⟩
  have hd' : d ≤ 127 := by
    have : (d : Int) ≤ 127 := by rw [← hd]; exact d1
    omega
  have hn' : n ≤ 511 := by
    have : (n : Int) ≤ 511 := by rw [← hn]; exact n1
    omega
  obtain ⟨K, hK⟩ := choose_fn (p := fun (q : Env × Heap) (H' : Heap) => q.1 0 = .int .i64 d → q.1 1 = .bool m → q.1 2 = .int .i64 n → q.1 7 = .str (bs []) → q.1 8 = .str (bs []) → fin [(6, none)] (dCode Tryd.prog hookG c5.s0 q.1 q.2) = some (.bool true, H')) fun q => by
    by_cases hq : q.1 0 = .int .i64 d ∧ q.1 1 = .bool m ∧ q.1 2 = .int .i64 n ∧ q.1 7 = .str (bs []) ∧ q.1 8 = .str (bs [])
    · obtain ⟨H', h⟩ := s0_run (H := q.2) hd' hn' hq.1 hq.2.1 hq.2.2.1 hq.2.2.2.1 hq.2.2.2.2
      exact ⟨H', fun _ _ _ _ _ => h⟩
    · exact ⟨[], fun a b c d f => absurd ⟨a, b, c, d, f⟩ hq⟩
  have hs0 : ∀ (e : Env) (H : Heap), e 0 = .int .i64 d → e 1 = .bool m → e 2 = .int .i64 n → e 7 = .str (bs []) → e 8 = .str (bs []) → fin [(6, none)] (dCode Tryd.prog hookG c5.s0 e H) = some (.bool true, K (e, H)) := fun e H a b c d f => hK (e, H) a b c d f
  rw [den_of (hG (by decide) (by decide) (by decide) _ _) k5 (by simp [c5])]
  exact ⟨_, by simp [c5, c5.body, hd, hn, hs0]; rfl⟩

end Go.Cn.D

