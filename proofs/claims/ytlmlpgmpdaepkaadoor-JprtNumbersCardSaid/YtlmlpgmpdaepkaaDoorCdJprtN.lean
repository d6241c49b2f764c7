/- glebelaw12.JprtNumbers in the canonical run. -/
import Derived.Test.YtlmlpgmpdaepkaaDoorCdNum5
import Derived.Test.YtlmlpgmpdaepkaaDoorCnLayer
set_option linter.unusedSimpArgs false
set_option linter.unusedVariables false
set_option linter.unusedSectionVars false
namespace Go.Cn.D
open Go.Proofs
set_option maxRecDepth 100000

noncomputable def hookE : Hook := layer Tryd.prog hookD (fun f => f == 3) (truths [10])

theorem hE3 (a : List CV) (h : Heap) : hookE 3 a h = none := layer_top (by simp [truths]) rfl
theorem hE10 (h : Heap) : den Tryd.prog hookE 10 [] h = some (.bool true, h) := den_hook (layer_sp (by simp [truths]))
theorem denE {f : FuncId} {a : List CV} {h : Heap} {r : CV × Heap} (h3 : f ≠ 3) (h10 : f ≠ 10) (hd : den Tryd.prog hookD f a h = some r) : den Tryd.prog hookE f a h = some r :=
  den_hook (layer_old (by simp [truths, h10]) (by simpa using h3) hd)

theorem round3 {H : Heap} {b i : Nat} {L : List Int} {e : Env} {k : Int} (h11 : e 11 = .slc b 0 6 6 1 true) (h12 : e 12 = .int .i64 6) (h13 : e 13 = .int .i64 i) (hb : H[b]? = some { cells := L.map (CV.int .i64), st := .live }) (hL : L.length = 6) (hk : L[i]? = some k) (hf : fitsI64 k = true) :
    ∃ e' H', dCode Tryd.prog hookE c3.l0 e H = some (.normal, e', H') ∧ e' 11 = .slc b 0 6 6 1 true ∧ e' 12 = .int .i64 6 ∧ e' 13 = .int .i64 ((i + 1 : Nat) : Int) ∧ Fr (fun _ => False) H H' := by
  have hi : i < 6 := by have := (List.getElem?_eq_some_iff.1 hk).1; omega
  have hiI : (i : Int) < 6 := by omega
  have hlen : (Lib.itoa k).length ≤ 21 := by
    simp only [fitsI64, decide_eq_true_eq] at hf
    exact Lib.itoa_length_le k hf.1 hf.2
  have hld : H.ld b i 1 = some [.int .i64 k] := by
    rw [ld_of hb (.inl rfl) (by simp; omega)]
    have hl : i < (L.map (CV.int .i64)).length := by simp; omega
    have : (L.map (CV.int .i64))[i]? = some (.int .i64 k) := by simp [hk]
    rw [List.getElem?_eq_getElem hl] at this
    simp only [Option.some.injEq] at this
    rw [List.drop_eq_getElem_cons hl, this]
    rfl
  have hcap : (itoaB k).size + 1 ≤ capB := by
    have : (itoaB k).size = (Lib.itoa k).length := by simp [itoaB]; rfl
    rw [this]; unfold capB; omega
  obtain ⟨H1, r, d8, hr, hrl, F1⟩ := print_num (H := H) hf hcap
  obtain ⟨H2, d9, F2⟩ := parse_itoa (H := H1) hf hr
  have d8 := denE (by decide) (by decide) d8
  have d9 := denE (by decide) (by decide) d9
  have hw : IntKind.i64.wrap ((i : Int) + 1) = ((i + 1 : Nat) : Int) := by rw [IntKind.wrap_i64]; omega
  let H3 : Heap := H2 ++ [{ cells := numJ k, st := .live, ty := some 28 }, e2z]
  have a1 : (H2 ++ [jz, e2z])[H2.length]? = some jz := by simp
  have a2 : (H2 ++ [jz, e2z]).set H2.length { cells := numJ k, st := .live, ty := some 28 } = H3 := by simp [H3]
  have a3 : H3[H2.length + 1]? = some e2z := by simp [H3]
  have a4 : H3[H2.length]? = some { cells := numJ k, st := .live, ty := some 28 } := by simp [H3]
  simp only [jz, e2z, numJ] at a1 a2 a3 a4
  simp only [numJ, ByteArray.size_append] at d8 d9
  have hF : Fr (fun _ => False) H H3 := (F1.trans F2 fun _ _ h => h).trans (Fr.push _) fun _ _ h => h
  simp [c3.l0, h11, h12, h13, hiI, hi, hld, fillC, splice, d8, d9, stc_of a1, a2, stc_of a3, set_same a3, ld_of a3, ld_of a4, hw]
  exact ⟨_, _, ⟨rfl, rfl⟩, by simp [h11], by simp [h12], by simp, hF⟩

theorem loop3 {b : Nat} {L : List Int} (hL : L.length = 6) (hf : ∀ k ∈ L, fitsI64 k = true) : ∀ (n i : Nat) (e : Env) (H : Heap), i + n = 6 → e 11 = .slc b 0 6 6 1 true → e 12 = .int .i64 6 → e 13 = .int .i64 i → H[b]? = some { cells := L.map (CV.int .i64), st := .live } →
    ∃ e' H', dCode Tryd.prog hookE (.loop c3.l0) e H = some (.exit 0, e', H') ∧ Fr (fun _ => False) H H' := by
  intro n
  induction n with
  | zero =>
    intro i e H hi h11 h12 h13 hb
    have : i = 6 := by omega
    subst this
    have key : ∃ e', dCode Tryd.prog hookE c3.l0 e H = some (.exit 0, e', H) := by simp [c3.l0, h12, h13]
    obtain ⟨e', k⟩ := key
    exact ⟨e', H, by rw [loop_step, k, next_exit], Fr.refl _ _⟩
  | succ n ih =>
    intro i e H hi h11 h12 h13 hb
    have hlt : i < L.length := by omega
    obtain ⟨e1, H1, d, a1, a2, a3, F1⟩ := round3 h11 h12 h13 hb hL (List.getElem?_eq_getElem hlt) (hf _ (List.getElem_mem hlt))
    obtain ⟨e2, H2, d2, F2⟩ := ih (i + 1) e1 H1 (by omega) a1 a2 a3 (by rw [F1.2 b (lt_of_get hb) id]; exact hb)
    exact ⟨e2, H2, by rw [loop_step, d, next_normal, d2], F1.trans F2 fun _ _ h => h⟩

theorem and255 (n : Int) : fitsI64 (ibits .and .i64 n 255) = true := by
  simp only [ibits, IntKind.wrap_i64, fitsI64, decide_eq_true_eq]
  generalize (BitVec.toNat _ : Nat) = x
  omega

theorem jprtNumbers_run {n : Int} (hn : fitsI64 n = true) : ∃ H', den Tryd.prog hookE 3 [.int .i64 n] [] = some (.bool true, H') := by
  rw [den_of (hE3 _ _) k3 (by simp [c3])]
  let L : List Int := [n, -9223372036854775808, 9223372036854775807, 0, -1, ibits .and .i64 n 255]
  have hL : ∀ k ∈ L, fitsI64 k = true := by
    intro k hk
    simp only [L, List.mem_cons, List.not_mem_nil, or_false] at hk
    rcases hk with rfl | rfl | rfl | rfl | rfl | rfl
    · exact hn
    · rfl
    · rfl
    · rfl
    · rfl
    · exact and255 n
  let H0 : Heap := [{ cells := L.map (CV.int .i64), st := .live }]
  obtain ⟨e1, H1, d1, F1⟩ := loop3 (b := 0) (L := L) rfl hL 6 0 (((((((initEnv [.int .i64 n]).put (some 2) (.bool false)).put (some 8) (.int .i64 n)).put (some 9) (.int .i64 n)).put (some 10) (.int .i64 (ibits .and .i64 n 255))).put (some 11) (.slc 0 0 6 6 1 true)).put (some 12) (.int .i64 6) |>.put (some 13) (.int .i64 0)) H0 rfl (by simp) (by simp) (by simp) rfl
  obtain ⟨H2, r, d8, hr, hrl, F2⟩ := print_num (H := H1) (k := -9223372036854775808) rfl (by decide +kernel)
  have d8 := denE (by decide) (by decide) d8
  simp [c3, c3.body, fillC, splice]
  simp only [L, List.map_cons, List.map_nil, H0] at d1
  have hit : itoaB (-9223372036854775808) ++ nl = bs [45, 57, 50, 50, 51, 51, 55, 50, 48, 51, 54, 56, 53, 52, 55, 55, 53, 56, 48, 56, 10] := by decide +kernel
  rw [hit] at d8 hr
  have hld : H2.ld r 0 21 = some (cellsOfStr (bs [45, 57, 50, 50, 51, 51, 55, 50, 48, 51, 54, 56, 53, 52, 55, 55, 53, 56, 48, 56, 10])) := by
    rw [ld_of hr (.inl rfl) (by simp [cells_size]; decide)]; rfl
  have hsz : (bs [45, 57, 50, 50, 51, 51, 55, 50, 48, 51, 54, 56, 53, 52, 55, 55, 53, 56, 48, 56, 10]).size = 21 := rfl
  rw [hsz] at d8
  simp only [numJ] at d8
  simp [d1, d8, fillC, splice, srcCells, hld, bstrOf, bytes_cells, hE10]

end Go.Cn.D
