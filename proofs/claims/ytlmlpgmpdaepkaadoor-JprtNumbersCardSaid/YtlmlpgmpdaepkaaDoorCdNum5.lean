/- A number that is printed and read again. -/
import Derived.Test.YtlmlpgmpdaepkaaDoorCnItoa
set_option linter.unusedSimpArgs false
set_option linter.unusedVariables false
set_option linter.unusedSectionVars false
namespace Go.Cn.D
open Go.Proofs
set_option maxRecDepth 100000

theorem toList_nl (k : Int) : (itoaB k ++ nl).data.toList = Lib.itoa k ++ [10] := by simp [itoaB, nl, ByteArray.data_append]
theorem size_nl (k : Int) : (itoaB k ++ nl).size = (Lib.itoa k).length + 1 := by
  have := congrArg List.length (toList_nl k)
  simpa using this
theorem ext_toList {T : ByteArray} {i j : Nat} : (T.extract i j).data.toList = (T.data.toList.take j).drop i := by
  simp only [ByteArray.data_extract, Array.toList_extract, List.extract_eq_take_drop]
  rw [List.drop_take]

theorem parse_itoa {H : Heap} {r : Nat} {k : Int} (hk : fitsI64 k = true) (hr : H[r]? = some { cells := cellsOfStr (itoaB k ++ nl), st := .live }) :
    ∃ H', den Tryd.prog hookD 9 [.slc r 0 (itoaB k ++ nl).size (itoaB k ++ nl).size 1 false] H = some (.tup [.agg (numJ k), .agg [.int .i64 0, .int .i64 0]], H') ∧ Fr (fun _ => False) H H' := by
  simp only [fitsI64, decide_eq_true_eq] at hk
  have hlen := Lib.itoa_length_le k hk.1 hk.2
  have htl := toList_nl k
  have hsz := size_nl k
  have h10 : (itoaB k ++ nl).data.toList[(Lib.itoa k).length]? = some 10 := by rw [htl]; simp
  have hext : ((itoaB k ++ nl).extract 0 (Lib.itoa k).length).data.toList = Lib.itoa k := by rw [ext_toList, htl]; simp
  have hesz : ((itoaB k ++ nl).extract 0 (Lib.itoa k).length).size = (Lib.itoa k).length := by
    exact congrArg List.length hext
  obtain ⟨f1, f2, f3, f4⟩ := decDigits_facts k.natAbs
  by_cases hneg : k < 0
  · have hit : Lib.itoa k = 45 :: Lib.decDigits k.natAbs := by unfold Lib.itoa; rw [if_pos hneg]
    have hue : (((itoaB k ++ nl).extract 0 (Lib.itoa k).length).extract 1 ((itoaB k ++ nl).extract 0 (Lib.itoa k).length).size).data.toList = Lib.decDigits k.natAbs := by
      rw [ext_toList, hext, hesz, List.take_of_length_le (Nat.le_refl _), hit]; rfl
    have hus : (((itoaB k ++ nl).extract 0 (Lib.itoa k).length).extract 1 ((itoaB k ++ nl).extract 0 (Lib.itoa k).length).size).size = (Lib.decDigits k.natAbs).length := by
      exact congrArg List.length hue
    have hl1 : (Lib.itoa k).length = (Lib.decDigits k.natAbs).length + 1 := by rw [hit]; rfl
    have hl2 : 0 < (Lib.decDigits k.natAbs).length := List.length_pos_iff.2 f3
    refine parse_num (c := 45) (v := k) hr (by rw [htl, hit]; rfl) rfl (by omega) h10 (by omega) fun x H1 hR => ?_
    have := number_neg (j := (Lib.itoa k).length) hR (by omega) h10 (by omega) rfl (by rw [hext, hit]; rfl) rfl (fun t c hc => by rw [hue] at hc; exact f2 c (List.mem_of_getElem? hc)) (fun _ => by
      obtain ⟨c0, l, e, hne⟩ := f4 (by omega)
      exact ⟨c0, by rw [hue, e]; rfl, hne⟩) (by rw [hue, f1]; omega) (by rw [hue, f1]; omega)
    rw [hue, f1] at this
    have hkk : -((k.natAbs : Nat) : Int) = k := by omega
    rw [hkk] at this
    exact this
  · have hit : Lib.itoa k = Lib.decDigits k.natAbs := by
      unfold Lib.itoa; rw [if_neg hneg]; congr 1; omega
    have hl2 : 0 < (Lib.decDigits k.natAbs).length := List.length_pos_iff.2 f3
    obtain ⟨c, l, hcl⟩ : ∃ c l, Lib.decDigits k.natAbs = c :: l := by
      cases hq : Lib.decDigits k.natAbs with
      | nil => exact absurd hq f3
      | cons c l => exact ⟨c, l, rfl⟩
    have hl1 : (Lib.itoa k).length = (Lib.decDigits k.natAbs).length := by rw [hit]
    refine parse_num (c := c) (v := k) hr (by rw [htl, hit, hcl]; rfl) (by simp [inNum, f2 c (by rw [hcl]; simp)]) (by omega) h10 (by omega) fun x H1 hR => ?_
    have := number_pos (j := (Lib.itoa k).length) hR (by omega) h10 (by omega) rfl (fun t c hc => by rw [hext, hit] at hc; exact f2 c (List.mem_of_getElem? hc)) (fun h1 => by
      by_cases h0 : 1 ≤ k.natAbs
      · obtain ⟨c0, l, e, hne⟩ := f4 h0
        exact ⟨c0, by rw [hext, hit, e]; rfl, hne⟩
      · have h00 : k.natAbs = 0 := by omega
        rw [hesz, hl1, h00, Lib.decDigits_one (by omega)] at h1
        simp at h1) (by rw [hext, hit, f1]; omega)
    rw [hext, hit, f1] at this
    have hkk : ((k.natAbs : Nat) : Int) = k := by omega
    rw [hkk] at this
    rw [hit]
    exact this

end Go.Cn.D
