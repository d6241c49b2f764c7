/- A number printed. -/
import Derived.Test.YtlmlpgmpdaepkaaDoorCdBld
set_option linter.unusedSimpArgs false
set_option linter.unusedVariables false
set_option linter.unusedSectionVars false
namespace Go.Cn.D
open Go.Proofs
set_option maxRecDepth 100000

theorem bytes_cells (s : ByteArray) : bytesOf (cellsOfStr s) = some s := by
  have key : ∀ l : List UInt8, bytesOf (l.map fun b => CV.int .u8 b.toNat) = some ⟨l.toArray⟩ := by
    intro l
    induction l with
    | nil => rfl
    | cons x l ih =>
      simp only [List.map_cons, bytesOf, ih]
      congr 1
      apply ByteArray.ext
      simp [ByteArray.data_append]
  have := key s.data.toList
  simpa [cellsOfStr] using this

theorem bytes_all (s : ByteArray) : (cellsOfStr s).all isByte = true := by
  simp only [cellsOfStr, List.all_map, List.all_eq_true]
  intro x _
  simp [isByte]
  have := x.toNat_lt
  omega

theorem string_of {H : Heap} {b : Nat} {g : Option Nat} {s : ByteArray} (hB : IsB H b g s) (h0 : 0 < s.size) (hc : s.size ≤ capB) : ∃ H', strHook H b 0 = some (.str s, H') ∧ Fr (fun c => g = some c) H H' := by
  obtain ⟨p, buf, hb, hp, hbuf⟩ := hB.at_
  rcases hbuf with ⟨hs0, _⟩ | ⟨_, c, rfl, hcb, rfl, hcc⟩
  · omega
  · refine ⟨H.set c { cells := cellsOfStr s, st := .ro, el := some 5 }, ?_, Fr.set rfl⟩
    have hld : H.ld b 1 1 = some [.slc c 0 s.size s.size 1 false] := by rw [ld_of hb (.inl rfl) (by simp)]; rfl
    have hld2 : H.ld c 0 s.size = some (cellsOfStr s) := by
      rw [ld_of hcc (.inl rfl) (by simp [cells_size])]
      simp only [List.drop_zero]
      rw [List.take_of_length_le (by rw [cells_size]; exact Nat.le_refl _)]
    simp [strHook, hld, hld2, hcc, h0, hc, bytes_cells, bytes_all]

def itoaB (n : Int) : ByteArray := ⟨(Lib.itoa n).toArray⟩

theorem hd37 (b : Nat) (h : Heap) : hookD 37 [.ptr b 0] h = ccHook h b := by simp [hookD]
theorem hd34 (a : List CV) (h : Heap) : hookD 34 a h = none := by unfold hookD; split <;> simp
theorem hd18 (a : List CV) (h : Heap) : hookD 18 a h = none := by unfold hookD; split <;> simp
theorem hd17 (a : List CV) (h : Heap) : hookD 17 a h = none := by unfold hookD; split <;> simp
theorem hd8 (a : List CV) (h : Heap) : hookD 8 a h = none := by unfold hookD; split <;> simp

theorem den35 {n : Int} {H : Heap} (hn : fitsI64 n = true) : den Tryd.prog hookD 35 [.int .i64 n, .int .i64 10] H = some (.str (itoaB n), H) := den_hook (by simp [hookD, hn, itoaB])

def numJ (k : Int) : List CV := [.int .i64 4, .int .i64 k, .str (bs []), .nils, .nils, .int .i64 0]

theorem value_num {H : Heap} {b : Nat} {g : Option Nat} {s x : ByteArray} {k : Int} (hk : fitsI64 k = true) (hB : IsB H b g s) (hcap : s.size + (itoaB k).size ≤ capB) :
    ∃ H' g', den Tryd.prog hookD 17 [.ptr b 0, .agg (numJ k), .str x] H = some (.tup [], H') ∧ IsB H' b g' (s ++ itoaB k) ∧ (g' = g ∨ ∃ c, g' = some c ∧ H.length ≤ c) ∧ Fr (fun c => c = b ∨ g = some c) H H' := by
  have hlt : b < H.length := by obtain ⟨p, buf, hb, _⟩ := hB.at_; exact lt_of_get hb
  let H1 : Heap := H ++ [{ cells := numJ k, st := .live }]
  have hB1 : IsB H1 b g s := by
    obtain ⟨p, buf, hb, hp, hbuf⟩ := hB.at_
    refine ⟨p, buf, get_push hb, hp, ?_⟩
    rcases hbuf with h | ⟨h0, c, h1, h2, h3, h4⟩
    · exact .inl h
    · exact .inr ⟨h0, c, h1, h2, h3, get_push h4⟩
  obtain ⟨H2, g2, d34, B2, hg, hF⟩ := writeString hd37 hd34 (t := itoaB k) hB1 hcap
  have hl : H.length ≤ H1.length := by simp [H1]
  refine ⟨H2, g2, ?_, B2, hg.imp id fun ⟨c, h1, h2⟩ => ⟨c, h1, by omega⟩, (Fr.push _).trans hF fun c _ h => h⟩
  rw [den_of (hd17 _ _) k17 (by simp [c17])]
  have hn : H1[H.length]? = some { cells := numJ k, st := .live } := get_new
  simp [c17, c17.body]
  simp only [show H ++ [({ cells := numJ k, st := .live } : Blk)] = H1 from rfl]
  simp [ld_of hn, numJ, den35 hk, d34]


theorem den37 {b : Nat} {H : Heap} {r} (h : ccHook H b = some r) : den Tryd.prog hookD 37 [.ptr b 0] H = some r := den_hook (by simp [hookD, h])
theorem den19 {b o : Nat} {H : Heap} {r} (h : strHook H b o = some r) : den Tryd.prog hookD 19 [.ptr b o] H = some r := den_hook (by simp [hookD, h])

def nl : ByteArray := ⟨#[10]⟩

theorem print_num {H : Heap} {k : Int} (hk : fitsI64 k = true) (hcap : (itoaB k).size + 1 ≤ capB) :
    ∃ H' r, den Tryd.prog hookD 8 [.agg (numJ k)] H = some (.slc r 0 (itoaB k ++ nl).size (itoaB k ++ nl).size 1 false, H') ∧ H'[r]? = some { cells := cellsOfStr (itoaB k ++ nl), st := .live } ∧ H.length ≤ r ∧ Fr (fun _ => False) H H' := by
  let H0 : Heap := H ++ [{ cells := numJ k, st := .live }]
  let H1 : Heap := H0 ++ [{ cells := [.nilp, .nils], st := .live, ty := some 46 }]
  have hl0 : H0.length = H.length + 1 := by simp [H0]
  have hl1 : H1.length = H.length + 2 := by simp [H1, hl0]
  have hB0 : IsB H1 H0.length none ByteArray.empty := ⟨.nilp, .nils, get_new, .inl rfl, .inl ⟨rfl, rfl, rfl⟩⟩
  obtain ⟨H2, g2, d17, B2, hg2, F2⟩ := value_num (x := bs []) hk hB0 (by simp; omega)
  obtain ⟨H3, g3, d18, B3, ⟨c3, hg3, hc3⟩, F3⟩ := writeByte hd37 hd18 (x := 10) (n := 10) rfl B2 (by simp; omega)
  have e0 : ByteArray.empty ++ itoaB k ++ ⟨#[10]⟩ = itoaB k ++ nl := by simp [nl]
  have hszE : (itoaB k ++ nl).size = (itoaB k).size + 1 := by rw [ByteArray.size_append]; rfl
  have hsz : (itoaB k ++ nl).size ≤ capB := by omega
  rw [e0] at B3
  obtain ⟨H4, d19, F4⟩ := string_of B3 (by omega) hsz
  have l2 := F2.1
  have l3 := F3.1
  have l4 := F4.1
  have hn : H1[H.length]? = some { cells := numJ k, st := .live } := get_push get_new
  refine ⟨H4 ++ [{ cells := cellsOfStr (itoaB k ++ nl), st := .live }], H4.length, ?_, get_new, by omega, ?_⟩
  · rw [den_of (hd8 _ _) k8 (by simp [c8])]
    have hld : H1.ld H.length 0 6 = some (numJ k) := by rw [ld_of hn (.inl rfl) (by simp [numJ])]; rfl
    simp [c8, c8.body]
    have eH : H ++ [({ cells := numJ k, st := .live } : Blk), ({ cells := [.nilp, .nils], st := .live, ty := some 46 } : Blk)] = H1 := by simp [H1, H0]
    simp only [eH, hl0.symm]
    have hsz' : (itoaB k).size + nl.size ≤ capB := by rw [← ByteArray.size_append]; exact hsz
    simp [hld, d17, d18, den19 d19, hsz']
  · refine ⟨by simp; omega, fun c hc _ => ?_⟩
    have n4 : ¬ g3 = some c := fun h => by rw [hg3] at h; simp at h; omega
    have n3 : ¬ (c = H0.length ∨ g2 = some c) := fun h => by
      rcases h with h | h
      · omega
      · cases hg2 with
        | inl h' => rw [h'] at h; simp at h
        | inr h' =>
          obtain ⟨c', h1, h2⟩ := h'
          rw [h1] at h; simp at h; omega
    have n2 : ¬ (c = H0.length ∨ none = some c) := fun h => by
      rcases h with h | h
      · omega
      · simp at h
    rw [List.getElem?_append_left (by omega), F4.2 c (by omega) n4, F3.2 c (by omega) n3, F2.2 c (by omega) n2]
    simp only [H1, H0]
    rw [List.getElem?_append_left (by simp; omega), List.getElem?_append_left (by omega)]

end Go.Cn.D
