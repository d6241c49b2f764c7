/- strings.Builder's writes at the seat. -/
import Derived.Test.YtlmlpgmpdaepkaaDoorCnSet
import Derived.Test.YtlmlpgmpdaepkaaDoorCdTab
set_option linter.unusedSimpArgs false
set_option linter.unusedVariables false
set_option linter.unusedSectionVars false
namespace Go.Cn.D
open Go.Proofs
set_option maxRecDepth 100000

/-- block b is a builder that holds s; its bytes lie in g -/
structure IsB (H : Heap) (b : Nat) (g : Option Nat) (s : ByteArray) : Prop where
  at_ : ∃ p buf, H[b]? = some { cells := [p, buf], st := .live, ty := some 46 } ∧ (p = .nilp ∨ p = .ptr b 0) ∧
    ((s.size = 0 ∧ buf = .nils ∧ g = none) ∨ (0 < s.size ∧ ∃ c, g = some c ∧ c ≠ b ∧ buf = .slc c 0 s.size s.size 1 false ∧ H[c]? = some { cells := cellsOfStr s, st := .live, el := some 5 }))

theorem cells_size {s : ByteArray} : (cellsOfStr s).length = s.size := by simp [cellsOfStr]
theorem cells_app {s t : ByteArray} : cellsOfStr (s ++ t) = cellsOfStr s ++ cellsOfStr t := by simp [cellsOfStr, ByteArray.data_append]

theorem d37 {hk : Hook} {b : Nat} {H : Heap} (hh : ∀ h, hk 37 [.ptr b 0] h = ccHook h b) {r} (h : ccHook H b = some r) : den Tryd.prog hk 37 [.ptr b 0] H = some r := den_hook (by rw [hh]; exact h)

theorem copyCheck_run {H : Heap} {b : Nat} {p buf : CV} (hb : H[b]? = some { cells := [p, buf], st := .live, ty := some 46 }) (hp : p = .nilp ∨ p = .ptr b 0) :
    ∃ H', ccHook H b = some (.tup [], H') ∧ H'[b]? = some { cells := [.ptr b 0, buf], st := .live, ty := some 46 } ∧ H'.length = H.length ∧ ∀ c, c ≠ b → H'[c]? = H[c]? := by
  rcases hp with rfl | rfl
  · refine ⟨H.set b { cells := [.ptr b 0, buf], st := .live, ty := some 46 }, ?_, ?_, by simp, fun c hc => List.getElem?_set_ne (Ne.symm hc)⟩
    · simp [ccHook, hb, stc_of hb, splice]
    · rw [List.getElem?_set_self (lt_of_get hb)]
  · exact ⟨H, by simp [ccHook, hb], hb, rfl, fun _ _ => rfl⟩

theorem writeString {hk : Hook} (hh : ∀ b h, hk 37 [.ptr b 0] h = ccHook h b) (h34 : ∀ a h, hk 34 a h = none) {H : Heap} {b : Nat} {g : Option Nat} {s t : ByteArray} (hB : IsB H b g s) (hcap : s.size + t.size ≤ capB) :
    ∃ H' g', den Tryd.prog hk 34 [.ptr b 0, .str t] H = some (.tup [.int .i64 t.size, .nili], H') ∧ IsB H' b g' (s ++ t) ∧ (g' = g ∨ ∃ c, g' = some c ∧ H.length ≤ c) ∧ Fr (fun c => c = b ∨ g = some c) H H' := by
  obtain ⟨p, buf, hb, hp, hbuf⟩ := hB.at_
  obtain ⟨H1, c1, c2, c3, c4⟩ := copyCheck_run hb hp
  have d := d37 (hh b) c1
  rw [den_of (h34 _ _) k34 (by simp [c34])]
  rcases hbuf with ⟨hs0, rfl, rfl⟩ | ⟨hs0, c, rfl, hcb, rfl, hc⟩
  · by_cases ht : t.size = 0
    · refine ⟨H1, none, ?_, ⟨.ptr b 0, .nils, c2, .inr rfl, .inl ⟨by simp [hs0, ht], rfl, rfl⟩⟩, .inl rfl, ⟨by omega, fun c _ hn => c4 c fun e => hn (.inl e)⟩⟩
      simp [c34, c34.body, d, ld_of c2, append, srcCells, ht, stc_of c2, splice]
      exact set_same c2
    · have hcap' : t.size ≤ capB := by omega
      refine ⟨(H1 ++ [({ cells := cellsOfStr t, st := .live, el := some 5 } : Blk)]).set b ({ cells := [.ptr b 0, .slc H1.length 0 t.size t.size 1 false], st := .live, ty := some 46 } : Blk), some H1.length, ?_, ?_, .inr ⟨_, rfl, by omega⟩, ⟨by simp; omega, fun c hc hn => ?_⟩⟩
      · simp [c34, c34.body, d, ld_of c2, append, srcCells, ht, stc_of (get_push c2), splice, hcap']
      · have hlt := lt_of_get c2
        refine ⟨.ptr b 0, .slc H1.length 0 t.size t.size 1 false, ?_, .inr rfl, .inr ⟨by simp; omega, H1.length, rfl, by omega, by simp [hs0], ?_⟩⟩
        · rw [List.getElem?_set_self (by simp; omega)]
        · rw [List.getElem?_set_ne (by omega), get_new]
          have : cellsOfStr s = [] := List.eq_nil_of_length_eq_zero (by rw [cells_size, hs0])
          rw [cells_app, this]; rfl
      · rw [List.getElem?_set_ne (fun e => hn (.inl e.symm)), List.getElem?_append_left (by omega), c4 c fun e => hn (.inl e)]
  · have hc1 : H1[c]? = some { cells := cellsOfStr s, st := .live, el := some 5 } := by rw [c4 c hcb]; exact hc
    by_cases ht : t.size = 0
    · have hst : s ++ t = s := by
        have : t = ByteArray.empty := by
          apply ByteArray.ext
          exact Array.eq_empty_of_size_eq_zero ht
        rw [this]; simp
      rw [hst]
      refine ⟨H1, some c, ?_, ⟨.ptr b 0, _, c2, .inr rfl, .inr ⟨hs0, c, rfl, hcb, rfl, hc1⟩⟩, .inl rfl, ⟨by omega, fun c _ hn => c4 c fun e => hn (.inl e)⟩⟩
      simp [c34, c34.body, d, ld_of c2, append, srcCells, ht, stc_of c2, splice]
      exact set_same c2
    · let H2 : Heap := H1.set c { cells := cellsOfStr s, st := .dead, el := some 5 } ++ [{ cells := cellsOfStr s ++ cellsOfStr t, st := .live, el := some 5 }]
      have hb2 : H2[b]? = some { cells := [.ptr b 0, .slc c 0 s.size s.size 1 false], st := .live, ty := some 46 } := by
        refine get_push ?_
        rw [List.getElem?_set_ne hcb]; exact c2
      refine ⟨H2.set b { cells := [.ptr b 0, .slc H1.length 0 (s.size + t.size) (s.size + t.size) 1 false], st := .live, ty := some 46 }, some H1.length, ?_, ?_, .inr ⟨_, rfl, by omega⟩, ⟨by simp [H2]; omega, fun c' hc' hn => ?_⟩⟩
      · have hlt := lt_of_get c2
        have happ : append H1 5 1 1 true (.slc c 0 s.size s.size 1 false) (.str t) = some (.slc H1.length 0 (s.size + t.size) (s.size + t.size) 1 false, H2) := by
          have hle : ¬ s.size + t.size ≤ s.size := by omega
          have htk : (cellsOfStr s).take s.size = cellsOfStr s := List.take_of_length_le (by rw [cells_size]; exact Nat.le_refl _)
          simp [append, srcCells, ht, ld_of hc1, cells_size, kill_of hc1, elOf, hc1, H2, hcap, hle, htk]
        simp [c34, c34.body, d, ld_of c2, happ, stc_of hb2, splice]
      · have hlt := lt_of_get c2
        refine ⟨.ptr b 0, .slc H1.length 0 (s.size + t.size) (s.size + t.size) 1 false, ?_, .inr rfl, .inr ⟨by simp; omega, H1.length, rfl, by omega, by simp, ?_⟩⟩
        · rw [List.getElem?_set_self (by simp [H2]; omega)]
        · rw [List.getElem?_set_ne (by omega), cells_app]
          have : H1.length = (H1.set c { cells := cellsOfStr s, st := .dead, el := some 5 }).length := by simp
          simp only [H2]
          rw [this, get_new]
      · rw [List.getElem?_set_ne (fun e => hn (.inl e.symm))]
        simp only [H2]
        rw [List.getElem?_append_left (by simp; omega), List.getElem?_set_ne (fun e => hn (.inr (by rw [e]))), c4 c' fun e => hn (.inl e)]


theorem writeByte {hk : Hook} (hh : ∀ b h, hk 37 [.ptr b 0] h = ccHook h b) (h18 : ∀ a h, hk 18 a h = none) {H : Heap} {b : Nat} {g : Option Nat} {s : ByteArray} {x : UInt8} {n : Int} (hn : n = x.toNat) (hB : IsB H b g s) (hcap : s.size + 1 ≤ capB) :
    ∃ H' g', den Tryd.prog hk 18 [.ptr b 0, .int .u8 n] H = some (.nili, H') ∧ IsB H' b g' (s ++ ⟨#[x]⟩) ∧ (∃ c, g' = some c ∧ H.length ≤ c) ∧ Fr (fun c => c = b ∨ g = some c) H H' := by
  subst hn
  obtain ⟨p, buf, hb, hp, hbuf⟩ := hB.at_
  obtain ⟨H1, c1, c2, c3, c4⟩ := copyCheck_run hb hp
  have d := d37 (hh b) c1
  have hx : cellsOfStr ⟨#[x]⟩ = [.int .u8 x.toNat] := rfl
  have hxs : (⟨#[x]⟩ : ByteArray).size = 1 := rfl
  rw [den_of (h18 _ _) k18 (by simp [c18])]
  let L : Heap := H1 ++ [{ cells := [.int .u8 x.toNat], st := .live }]
  have cL : L[b]? = H1[b]? := List.getElem?_append_left (lt_of_get c2)
  have hlt := lt_of_get c2
  have hLl : L.length = H1.length + 1 := by simp [L]
  have hld : L.ld H1.length 0 1 = some [.int .u8 x.toNat] := by rw [ld_of (H := L) (get_new) (.inl rfl) (by simp)]; rfl
  have hfill : fillC [CV.int .u8 0] [(0, 1, CV.int .u8 x.toNat)] = some [.int .u8 x.toNat] := by simp [fillC, splice]
  rcases hbuf with ⟨hs0, rfl, rfl⟩ | ⟨hs0, c, rfl, hcb, rfl, hc⟩
  · have happ : append L 5 1 1 false .nils (.slc H1.length 0 1 1 1 true) = some (.slc L.length 0 1 1 1 false, L ++ [{ cells := [.int .u8 x.toNat], st := .live, el := some 5 }]) := by
      have : 1 ≤ capB := by unfold capB; omega
      simp [append, srcCells, hld, this]
    refine ⟨(L ++ [({ cells := [.int .u8 x.toNat], st := .live, el := some 5 } : Blk)]).set b ({ cells := [.ptr b 0, .slc L.length 0 1 1 1 false], st := .live, ty := some 46 } : Blk), some L.length, ?_, ?_, ⟨_, rfl, by omega⟩, ⟨by simp; omega, fun c hc hn => ?_⟩⟩
    · have hb2 : (L ++ [({ cells := [.int .u8 x.toNat], st := .live, el := some 5 } : Blk)])[b]? = some { cells := [.ptr b 0, .nils], st := .live, ty := some 46 } := get_push (by rw [cL]; exact c2)
      simp [c18, c18.body, d, hfill, ld_of c2]
      simp only [show H1 ++ [({ cells := [.int .u8 x.toNat], st := .live } : Blk)] = L from rfl]
      simp [happ, stc_of hb2, splice]
    · have e1 : s ++ ⟨#[x]⟩ = ⟨#[x]⟩ := by
        have : s = ByteArray.empty := by
          apply ByteArray.ext
          exact Array.eq_empty_of_size_eq_zero hs0
        rw [this]; simp
      rw [e1]
      refine ⟨.ptr b 0, .slc L.length 0 1 1 1 false, ?_, .inr rfl, .inr ⟨by rw [hxs]; omega, L.length, rfl, by omega, by rw [hxs], ?_⟩⟩
      · rw [List.getElem?_set_self (by simp; omega)]
      · rw [List.getElem?_set_ne (by omega), get_new, hx]
    · rw [List.getElem?_set_ne (fun e => hn (.inl e.symm)), List.getElem?_append_left (by omega), List.getElem?_append_left (by omega), c4 c fun e => hn (.inl e)]
  · have hc1 : H1[c]? = some { cells := cellsOfStr s, st := .live, el := some 5 } := by rw [c4 c hcb]; exact hc
    have hcL : L[c]? = some { cells := cellsOfStr s, st := .live, el := some 5 } := get_push hc1
    let H2 : Heap := L.set c { cells := cellsOfStr s, st := .dead, el := some 5 } ++ [{ cells := cellsOfStr s ++ [.int .u8 x.toNat], st := .live, el := some 5 }]
    have hb2 : H2[b]? = some { cells := [.ptr b 0, .slc c 0 s.size s.size 1 false], st := .live, ty := some 46 } := by
      refine get_push ?_
      rw [List.getElem?_set_ne hcb, cL]; exact c2
    have happ : append L 5 1 1 false (.slc c 0 s.size s.size 1 false) (.slc H1.length 0 1 1 1 true) = some (.slc L.length 0 (s.size + 1) (s.size + 1) 1 false, H2) := by
      have hle : ¬ s.size + 1 ≤ s.size := by omega
      have htk : (cellsOfStr s).take s.size = cellsOfStr s := List.take_of_length_le (by rw [cells_size]; exact Nat.le_refl _)
      simp [append, srcCells, hld, ld_of hcL, cells_size, kill_of hcL, elOf, hcL, H2, hcap, hle, htk]
    refine ⟨H2.set b ({ cells := [.ptr b 0, .slc L.length 0 (s.size + 1) (s.size + 1) 1 false], st := .live, ty := some 46 } : Blk), some L.length, ?_, ?_, ⟨_, rfl, by omega⟩, ⟨by simp [H2]; omega, fun c' hc' hn => ?_⟩⟩
    · simp [c18, c18.body, d, hfill, ld_of c2]
      simp only [show H1 ++ [({ cells := [.int .u8 x.toNat], st := .live } : Blk)] = L from rfl]
      simp [happ, stc_of hb2, splice]
    · refine ⟨.ptr b 0, .slc L.length 0 (s.size + 1) (s.size + 1) 1 false, ?_, .inr rfl, .inr ⟨by simp; omega, L.length, rfl, by omega, by simp [hxs], ?_⟩⟩
      · rw [List.getElem?_set_self (by simp [H2]; omega)]
      · rw [List.getElem?_set_ne (by omega), cells_app, hx]
        have : L.length = (L.set c ({ cells := cellsOfStr s, st := .dead, el := some 5 } : Blk)).length := by simp
        simp only [H2]
        rw [this, get_new]
    · rw [List.getElem?_set_ne (fun e => hn (.inl e.symm))]
      simp only [H2]
      rw [List.getElem?_append_left (by simp; omega), List.getElem?_set_ne (fun e => hn (.inr (by rw [e]))), List.getElem?_append_left (by omega), c4 c' fun e => hn (.inl e)]

end Go.Cn.D
