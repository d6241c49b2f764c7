/- The document's reader of numbers. -/
import Derived.Test.YtlmlpgmpdaepkaaDoorCdParse
set_option linter.unusedSimpArgs false
set_option linter.unusedVariables false
set_option linter.unusedSectionVars false
namespace Go.Cn.D
open Go.Proofs
set_option maxRecDepth 100000

def isDig (c : UInt8) : Bool := decide (48 ≤ c.toNat ∧ c.toNat ≤ 57)

theorem digit_run {H : Heap} {c : UInt8} : den Tryd.prog hookD 42 [.int .u8 c.toNat] H = some (.bool (isDig c), H) := by
  rw [den_of (hdN (by decide) _ _) k42 (by simp [c42])]
  by_cases h1 : 48 ≤ c.toNat
  · have h1' : (48 : Int) ≤ c.toNat := by omega
    by_cases h2 : c.toNat ≤ 57
    · have h2' : (c.toNat : Int) ≤ 57 := by omega
      simp [c42, c42.body, isDig, h1, h1', h2, h2']
    · have h2' : ¬ (c.toNat : Int) ≤ 57 := by omega
      simp [c42, c42.body, isDig, h1, h1', h2, h2']
  · have h1' : ¬ (48 : Int) ≤ c.toNat := by omega
    simp [c42, c42.body, isDig, h1, h1']

/-- may a byte stand in a number? (as far as it matters here) -/
theorem tail_dig {H : Heap} {c : UInt8} (hc : isDig c = true) : den Tryd.prog hookD 66 [.int .u8 c.toNat] H = some (.bool true, H) := by
  rw [den_of (hdN (by decide) _ _) k66 (by simp [c66])]
  simp [c66, c66.body, digit_run, hc]

theorem tail_minus {H : Heap} : den Tryd.prog hookD 66 [.int .u8 45] H = some (.bool true, H) := by
  have hd : den Tryd.prog hookD 42 [.int .u8 45] H = some (.bool false, H) := digit_run (c := 45)
  rw [den_of (hdN (by decide) _ _) k66 (by simp [c66])]
  simp [c66, c66.body, hd]

theorem tail_nl {H : Heap} : den Tryd.prog hookD 66 [.int .u8 10] H = some (.bool false, H) := by
  have hd : den Tryd.prog hookD 42 [.int .u8 10] H = some (.bool false, H) := digit_run (c := 10)
  rw [den_of (hdN (by decide) _ _) k66 (by simp [c66])]
  simp [c66, c66.body, hd]


def inNum (c : UInt8) : Bool := isDig c || c == 45

theorem tail_in {H : Heap} {c : UInt8} (hc : inNum c = true) : den Tryd.prog hookD 66 [.int .u8 c.toNat] H = some (.bool true, H) := by
  simp only [inNum, Bool.or_eq_true, beq_iff_eq] at hc
  rcases hc with h | rfl
  · exact tail_dig h
  · exact tail_minus

theorem tail_step {H : Heap} {x : Nat} {T : ByteArray} {e : Env} {i i0 : Nat} {c : UInt8} (h0 : e 0 = .ptr x 0) (h4 : e 4 = .int .i64 i) (hR : Rd H x T i0) (hc : T.data.toList[i]? = some c) (hn : inNum c = true) (hT : T.size < 2 ^ 61) :
    ∃ e', dCode Tryd.prog hookD c43.l0 e H = some (.normal, e', H) ∧ e' 0 = .ptr x 0 ∧ e' 4 = .int .i64 ((i + 1 : Nat) : Int) ∧ e' 3 = e 3 := by
  obtain ⟨r, hrx, hx, hr⟩ := hR.at_
  have hlt : i < T.size := (List.getElem?_eq_some_iff.1 hc).1
  have hltI : (i : Int) < T.size := by omega
  have hld := ld_byte hr rfl (.inl rfl) hc
  have hw : IntKind.i64.wrap ((i : Int) + 1) = ((i + 1 : Nat) : Int) := by rw [IntKind.wrap_i64]; omega
  simp [c43.l0, h0, h4, ld_of hx, hltI, hlt, hld, tail_in hn, hw]

theorem tail_end {H : Heap} {x : Nat} {T : ByteArray} {e : Env} {i i0 : Nat} (h0 : e 0 = .ptr x 0) (h4 : e 4 = .int .i64 i) (hR : Rd H x T i0) (hc : T.data.toList[i]? = some 10) :
    ∃ e', dCode Tryd.prog hookD c43.l0 e H = some (.exit 0, e', H) ∧ e' 0 = .ptr x 0 ∧ e' 4 = .int .i64 i ∧ e' 3 = e 3 := by
  obtain ⟨r, hrx, hx, hr⟩ := hR.at_
  have hlt : i < T.size := (List.getElem?_eq_some_iff.1 hc).1
  have hltI : (i : Int) < T.size := by omega
  have hld := ld_byte hr rfl (.inl rfl) hc
  have ht : den Tryd.prog hookD 66 [.int .u8 10] H = some (.bool false, H) := tail_nl
  simp [c43.l0, h0, h4, ld_of hx, hltI, hlt, hld, ht]

theorem tail_loop {H : Heap} {x : Nat} {T : ByteArray} {i0 j : Nat} (hR : Rd H x T i0) (hc : T.data.toList[j]? = some 10) (hT : T.size < 2 ^ 61) : ∀ (n i : Nat) (e : Env), i + n = j → (∀ k c, i ≤ k → k < j → T.data.toList[k]? = some c → inNum c = true) → e 0 = .ptr x 0 → e 4 = .int .i64 i →
    ∃ e', dCode Tryd.prog hookD (.loop c43.l0) e H = some (.exit 0, e', H) ∧ e' 0 = .ptr x 0 ∧ e' 4 = .int .i64 j ∧ e' 3 = e 3 := by
  intro n
  induction n with
  | zero =>
    intro i e hi _ h0 h4
    have : i = j := by omega
    subst this
    obtain ⟨e', k1, k2⟩ := tail_end h0 h4 hR hc
    exact ⟨e', by rw [loop_step, k1, next_exit], k2⟩
  | succ n ih =>
    intro i e hi hb h0 h4
    have hlt : i < T.data.toList.length := by
      have := (List.getElem?_eq_some_iff.1 hc).1
      omega
    obtain ⟨c, hci⟩ : ∃ c, T.data.toList[i]? = some c := ⟨_, List.getElem?_eq_getElem hlt⟩
    obtain ⟨e', k1, k2, k3, k4⟩ := tail_step h0 h4 hR hci (hb i c (Nat.le_refl _) (by omega) hci) hT
    obtain ⟨e2, l1, l2, l3, l4⟩ := ih (i + 1) e' (by omega) (fun k c h1 h2 => hb k c (by omega) h2) k2 k3
    exact ⟨e2, by rw [loop_step, k1, next_normal, l1], l2, l3, by rw [l4, k4]⟩


theorem idx_at {h : Heap} {s : ByteArray} {i : Nat} {c : UInt8} (hc : s.data.toList[i]? = some c) : idxOf h s (i : Int) = some (.int .u8 c.toNat, h) := by
  have : s.data.toList[((i : Int)).toNat]? = some c := by simpa using hc
  simp only [idxOf]
  rw [if_pos (by omega), this]

theorem wrap_u64_id {z : Int} (h0 : 0 ≤ z) (h1 : z < 18446744073709551616) : IntKind.u64.wrap z = z := by
  simp [IntKind.wrap, IntKind.bits, IntKind.signed]
  omega
theorem wrap_u8_id {z : Int} (h0 : 0 ≤ z) (h1 : z < 256) : IntKind.u8.wrap z = z := by
  simp [IntKind.wrap, IntKind.bits, IntKind.signed]
  omega

theorem num_step {H : Heap} {s : ByteArray} {e : Env} {i acc most : Nat} {c : UInt8} (h0 : e 0 = .str s) (h1 : e 1 = .int .u64 most) (h6 : e 6 = .int .u64 acc) (h7 : e 7 = .int .i64 i) (hc : s.data.toList[i]? = some c) (hd : isDig c = true)
    (hz : i = 1 → ∃ c0, s.data.toList[0]? = some c0 ∧ c0 ≠ 48) (hm : 10 * acc + (c.toNat - 48) ≤ most) (hm2 : most < 18446744073709551616) (hm3 : 10 ≤ most) (hs : s.size < 2 ^ 61) :
    ∃ e', dCode Tryd.prog hookD c67.l0 e H = some (.normal, e', H) ∧ e' 0 = .str s ∧ e' 1 = .int .u64 most ∧ e' 6 = .int .u64 ((10 * acc + (c.toNat - 48) : Nat) : Int) ∧ e' 7 = .int .i64 ((i + 1 : Nat) : Int) := by
  simp only [isDig, decide_eq_true_eq] at hd
  have hlt : i < s.size := (List.getElem?_eq_some_iff.1 hc).1
  have hltI : (i : Int) < s.size := by omega
  have hix := idx_at (h := H) hc
  have hw : IntKind.i64.wrap ((i : Int) + 1) = ((i + 1 : Nat) : Int) := by rw [IntKind.wrap_i64]; omega
  have a1 : ¬ ((c.toNat : Int) < 48) := by omega
  have a2 : ¬ (57 < (c.toNat : Int)) := by omega
  have a3 : IntKind.u8.wrap ((c.toNat : Int) - 48) = (c.toNat : Int) - 48 := wrap_u8_id (by omega) (by omega)
  have a4 : IntKind.u64.wrap ((c.toNat : Int) - 48) = (c.toNat : Int) - 48 := wrap_u64_id (by omega) (by omega)
  have a5 : (c.toNat : Int) - 48 < most := by omega
  have a6 : IntKind.u64.wrap ((most : Int) - ((c.toNat : Int) - 48)) = (most : Int) - ((c.toNat : Int) - 48) := wrap_u64_id (by omega) (by omega)
  have a7 : IntKind.u64.wrap (((most : Int) - ((c.toNat : Int) - 48)).tdiv 10) = ((most : Int) - ((c.toNat : Int) - 48)) / 10 := by
    rw [Int.tdiv_eq_ediv_of_nonneg (by omega)]
    exact wrap_u64_id (by omega) (by omega)
  have a8 : ¬ (((most : Int) - ((c.toNat : Int) - 48)) / 10 < (acc : Int)) := by omega
  have a9 : IntKind.u64.wrap (10 * (acc : Int)) = 10 * (acc : Int) := wrap_u64_id (by omega) (by omega)
  have b1 : IntKind.u64.wrap (10 * (acc : Int) + ((c.toNat : Int) - 48)) = 10 * (acc : Int) + ((c.toNat : Int) - 48) := wrap_u64_id (by omega) (by omega)
  have b2 : ¬ ((most : Int) < 10 * (acc : Int) + ((c.toNat : Int) - 48)) := by omega
  have b3 : ((10 * acc + (c.toNat - 48) : Nat) : Int) = 10 * (acc : Int) + ((c.toNat : Int) - 48) := by omega
  rw [b3]
  by_cases hi : i = 1
  · obtain ⟨c0, hc0, hne⟩ := hz hi
    subst hi
    have hix0 := idx_at (h := H) hc0
    have hne' : ¬ ((c0.toNat : Int) = 48) := by
      intro h; apply hne; apply UInt8.toNat_inj.1; simp; omega
    simp at hix hix0 hltI hw
    simp [c67.l0, h0, h1, h6, h7, hltI, hix, hix0, hw, hne', a1, a2, a3, a4, a5, a6, a7, a8, a9, b1, b2]
  · have hi' : ¬ ((i : Int) = 1) := by omega
    simp [c67.l0, h0, h1, h6, h7, hltI, hix, hw, hi', a1, a2, a3, a4, a5, a6, a7, a8, a9, b1, b2]


theorem num_end {H : Heap} {s : ByteArray} {e : Env} (h0 : e 0 = .str s) (h7 : e 7 = .int .i64 s.size) : ∃ e', dCode Tryd.prog hookD c67.l0 e H = some (.exit 0, e', H) ∧ e' 0 = .str s ∧ e' 6 = e 6 := by
  simp [c67.l0, h0, h7]

def decVal (l : List UInt8) : Nat := l.foldl (fun a c => 10 * a + (c.toNat - 48)) 0

theorem decVal_snoc (l : List UInt8) (c : UInt8) : decVal (l ++ [c]) = 10 * decVal l + (c.toNat - 48) := by simp [decVal]

theorem fold_le (l : List UInt8) : ∀ a : Nat, a ≤ l.foldl (fun a c => 10 * a + (c.toNat - 48)) a := by
  induction l with
  | nil => intro a; exact Nat.le_refl _
  | cons c l ih => intro a; exact Nat.le_trans (show a ≤ 10 * a + (c.toNat - 48) by omega) (ih _)

theorem decVal_take (l : List UInt8) (i : Nat) : decVal (l.take i) ≤ decVal l := by
  have : decVal l = (l.drop i).foldl (fun a c => 10 * a + (c.toNat - 48)) (decVal (l.take i)) := by
    unfold decVal
    rw [← List.foldl_append, List.take_append_drop]
  rw [this]
  exact fold_le _ _

theorem num_loop {H : Heap} {s : ByteArray} {most : Nat} (hd : ∀ (k : Nat) c, s.data.toList[k]? = some c → isDig c = true) (hz : 1 < s.size → ∃ c0, s.data.toList[0]? = some c0 ∧ c0 ≠ 48) (hv : decVal s.data.toList ≤ most) (hm2 : most < 18446744073709551616) (hm3 : 10 ≤ most) (hs : s.size < 2 ^ 61) :
    ∀ (n i : Nat) (e : Env), i + n = s.size → e 0 = .str s → e 1 = .int .u64 most → e 6 = .int .u64 (decVal (s.data.toList.take i)) → e 7 = .int .i64 i →
    ∃ e', dCode Tryd.prog hookD (.loop c67.l0) e H = some (.exit 0, e', H) ∧ e' 0 = .str s ∧ e' 6 = .int .u64 (decVal s.data.toList) := by
  intro n
  have hsz : s.data.toList.length = s.size := rfl
  induction n with
  | zero =>
    intro i e hi h0 h1 h6 h7
    have : i = s.size := by omega
    subst this
    obtain ⟨e', k1, k2, k3⟩ := num_end h0 h7
    refine ⟨e', by rw [loop_step, k1, next_exit], k2, ?_⟩
    rw [k3, h6, List.take_of_length_le (by omega)]
  | succ n ih =>
    intro i e hi h0 h1 h6 h7
    have hlt : i < s.data.toList.length := by omega
    have hc : s.data.toList[i]? = some s.data.toList[i] := List.getElem?_eq_getElem hlt
    generalize s.data.toList[i] = c at hc
    have ht : s.data.toList.take (i + 1) = s.data.toList.take i ++ [c] := by
      rw [List.take_add_one, hc]; rfl
    have hle := decVal_take s.data.toList (i + 1)
    rw [ht, decVal_snoc] at hle
    obtain ⟨e', k1, k2, k3, k4, k5⟩ := num_step (H := H) h0 h1 h6 h7 hc (hd i c hc) (fun hi1 => hz (by omega)) (by omega) hm2 hm3 hs
    rw [← decVal_snoc, ← ht] at k4
    obtain ⟨e2, l1, l2, l3⟩ := ih (i + 1) e' (by omega) k2 k3 k4 k5
    exact ⟨e2, by rw [loop_step, k1, next_normal, l1], l2, l3⟩

theorem num_run {H : Heap} {s : ByteArray} {most : Nat} (h0 : 0 < s.size) (hd : ∀ (k : Nat) c, s.data.toList[k]? = some c → isDig c = true) (hz : 1 < s.size → ∃ c0, s.data.toList[0]? = some c0 ∧ c0 ≠ 48) (hv : decVal s.data.toList ≤ most) (hm2 : most < 18446744073709551616) (hm3 : 10 ≤ most) (hs : s.size < 2 ^ 61) :
    den Tryd.prog hookD 67 [.str s, .int .u64 most] H = some (.tup [.int .u64 (decVal s.data.toList), .bool true], H) := by
  rw [den_of (hdN (by decide) _ _) k67 (by simp [c67])]
  let e0 : Env := (((initEnv [.str s, .int .u64 most]).put (some 4) (.int .u64 0)).put (some 5) (.bool false)).put (some 6) (.int .u64 0)
  obtain ⟨e', k1, k2, k3⟩ := num_loop (H := H) hd hz hv hm2 hm3 hs s.size 0 (e0.put (some 7) (.int .i64 0)) (by omega) (by simp [e0]) (by simp [e0]) (by simp [e0, decVal]) (by simp)
  simp only [e0] at k1
  have h0' : (0 : Int) < s.size := by omega
  simp [c67, c67.body, k1, k2, k3, h0']
  exact h0

end Go.Cn.D
