/- Append, marks, texts out of rows: the canonical run tells what the machine does. -/
import Derived.Test.YtlmlpgmpdaepkaaDoorCnSim8
set_option linter.unusedSimpArgs false
set_option linter.unusedVariables false
set_option linter.unusedSectionVars false
namespace Go.Cn
section
variable {P : Program} {a : Act} {μ : Mp} {K : View} {w : World} {e : Env} {h h' : Heap} {v : CV}

theorem addr_range {pl : Pl} {o : Nat} {vs : List Value} (hr : w.rangeAt pl.r o vs) : ∀ j u, vs[j]? = some u → w.cell? ((⟨pl.r, o, none⟩ : Addr).add j) = some u := by
  intro j u hu
  rw [Addr.add_none]
  exact hr j u hu

/-- what is appended -/
theorem src_ok {k n : Nat} {st : Bool} {cx : CV} {u : Value} {news : List CV} {tx : TypeId} {d : TypeDesc} (hS : SimV μ K w) (hA : ∀ b, blockOf cx = some b → ∀ blk, b < h.length → K b = some blk → h[b]? = some blk)
    (hd : P.underlying tx = some d) (hst : (st = false ∧ ∃ e', d = .slice e') ∨ (st = true ∧ d = .string)) (hx : VR μ cx u) (hs : srcCells h k st cx = some (news, n)) : ∃ vn, VL μ news vn ∧ Src P k tx u n vn w := by
  unfold srcCells at hs
  split at hs
  · simp at hs
    obtain ⟨rfl, rfl⟩ := hs
    simp at hst
    obtain ⟨e', rfl⟩ := hst
    simp only [VR, VRa, VRc] at hx
    subst hx
    exact ⟨[], trivial, Src.ofNil w hd 0⟩
  · rename_i b off len cap k' ex
    split at hs
    · rename_i hk
      subst hk
      simp only [Option.map_eq_some_iff, Prod.mk.injEq] at hs
      obtain ⟨cs, hl, rfl, rfl⟩ := hs
      simp at hst
      obtain ⟨e', rfl⟩ := hst
      simp only [VR, VRa, VRc] at hx
      obtain ⟨pl, ad, cap', hm, rfl, g1, g2, g3, g4, g5⟩ := hx
      obtain ⟨vs, p1, p2, p3⟩ := ld_at hS (hA b rfl) hm hl
      refine ⟨vs, p1, Src.ofSlice w hd ad len cap' vs p2 ?_ p1.oneCell⟩
      rcases g5 with g5 | ⟨rfl, _⟩
      · have h0 : len = 0 := by omega
        subst h0
        simp at p2
        subst p2
        intro j u hu; simp at hu
      · exact addr_range p3
    · simp at hs
  · rename_i s
    split at hs
    · rename_i hk
      subst hk
      simp at hs
      obtain ⟨rfl, rfl⟩ := hs
      simp at hst
      subst hst
      simp only [VR, VRa, VRc] at hx
      subst hx
      exact ⟨byteCells s, vl_bytes _, Src.ofString w hd s⟩
    · simp at hs
  · simp at hs

theorem run_nothing (t tx ty el : TypeId) (i : TypeInfo) (ht : P.underlying t = some (.slice el)) (hi : P.info? el = some i) (base : Option Addr) (sLen sCap : Nat) (hle : sLen ≤ sCap) (x : Value) (hs : Src P i.size tx x 0 [] w) :
    (Builtin.append_ #[t, tx] ty #[.slice base sLen sCap, x]).run P w = .ok (.slice base sLen sCap) w := by
  rcases hs.kind with ⟨e', hk⟩ | hk <;> cases base <;> simp [Builtin.append_, run_underlying ht, run_underlying hk, sizeOf, typeInfo, hi, hs.len, hle, hs.cells, storeCells]

/-- the result of an append, the world behind it -/
def AppSim (P : Program) (t tx ty : TypeId) (u x : Value) (μ : Mp) (K : View) (w : World) (v : CV) (h h' : Heap) : Prop :=
  ∃ μ' r w', (Builtin.append_ #[t, tx] ty #[u, x]).run P w = .ok r w' ∧ VR μ' v r ∧ Step μ K w μ' (updK K h h') w' ∧ SimV μ' (updK K h h') w'

theorem app_same {t tx ty el : TypeId} {i : TypeInfo} {k : Nat} {u x : Value} {vn : List Value} {c : CV} (ht : P.underlying t = some (.slice el)) (hi : P.info? el = some i) (hk : i.size = k) (hS : SimV μ K w) (hs : Src P k tx x 0 vn w)
    (hu : VR μ c u) (hc : c = .nils ∨ ∃ b off len cap k ex, c = .slc b off len cap k ex) : AppSim P t tx ty u x μ K w c h h := by
  have hv0 : vn = [] := by have := hs.newsLen; simp at this; exact this
  subst hv0
  refine ⟨μ, u, w, ?_, hu, by rw [updK_self]; exact Step.refl _ _ _, by rw [updK_self]; exact hS⟩
  rcases hc with rfl | ⟨b, off, len, cap, k', ex, rfl⟩
  · simp only [VR, VRa, VRc] at hu
    subst hu
    exact run_nothing t tx ty el i ht hi none 0 0 (Nat.le_refl _) x (by rw [hk]; exact hs)
  · simp only [VR, VRa, VRc] at hu
    obtain ⟨pl, ad, cap', hm, rfl, g1, g2, g3, g4, g5⟩ := hu
    exact run_nothing t tx ty el i ht hi (some ad) len cap' (by omega) x (by rw [hk]; exact hs)

/-- it grows: a new row -/
theorem app_grow {t tx ty el : TypeId} {i : TypeInfo} {z : Value} {k bytes n : Nat} {x : Value} {vn olds : List Value} {news old : List CV} {base : Option Addr} {sLen sCap : Nat} (ht : P.underlying t = some (.slice el)) (hi : P.info? el = some i) (hz : i.zero = some z)
    (hk : i.size = k) (hby : i.bytes = bytes) (h0 : 0 < k) (hzk : z.cells.size = k) (hS : SimV μ K w) (hn : K h.length = none) (hs : Src P k tx x n vn w) (hvn : VL μ news vn) (hold : VL μ old olds) (hol : olds.length = sLen * k)
    (hof : (Builtin.firstCells k sLen (.slice base sLen sCap)).run P w.drew = .ok olds.toArray w.drew) (hg : sCap < sLen + n) (hb : (sLen + n) * bytes ≤ capB) (hl : sLen + n ≤ capB) {le : Option TypeId} (hle : ∀ t, le = some t → el = t) :
    ∃ μ' r w', (Builtin.append_ #[t, tx] ty #[.slice base sLen sCap, x]).run P w = .ok r w' ∧ VR μ' (.slc h.length 0 (sLen + n) (sLen + n) k false) r ∧
      Step μ K w μ' (K.set h.length { cells := old ++ news, st := .live, el := le }) w' ∧ SimV μ' (K.set h.length { cells := old ++ news, st := .live, el := le }) w' := by
  subst hk hby
  have hrun := run_append_grow_src (P := P) w t tx ty el i z ht hi hz base sLen sCap olds hof x n vn hs hg (by unfold capB at hl; omega) (by
    have := growslice_fits (bytes := i.bytes) hg (by unfold capB at hb; omega)
    exact this)
  generalize hcap : grownCap w (sLen + n) sCap el = cap at hrun
  have hcap' : sLen + n ≤ cap := by rw [← hcap]; simp [grownCap, Question.cut]
  have hall : VL μ (old ++ news) (olds ++ vn) := hold.append hvn
  obtain ⟨g1, g2⟩ := new_row_ty (h := h) (w' := w.drew.alloc (.cells ((olds ++ vn).toArray ++ Builtin.zeroCells z.cells (cap - (sLen + n))) el)) (rest := Builtin.zeroCells z.cells (cap - (sLen + n))) (el := el) (ty := none) (le := le) (fun t h => by simp at h) hle hS hn hall rfl rfl rfl rfl
  rw [updK_push] at g1 g2
  refine ⟨_, _, _, hrun, ?_, g2, g1⟩
  refine VR.of_c ⟨_, _, cap, Mp.set_same _ _ _, rfl, Nat.le_refl _, hcap', fun hh => by simp at hh, h0, .inr ⟨by simp, ?_⟩⟩
  have h1 := hs.newsLen
  simp [Builtin.zeroCells, hol, h1, hzk, ← Nat.add_mul]
  exact Nat.mul_le_mul_right _ (by omega)

/-- there is room that the canonical run does not see: the new row lies over the old one -/
theorem app_over {t tx ty el : TypeId} {i : TypeInfo} {k n : Nat} {x : Value} {vn olds : List Value} {news old : List CV} {b off len cap' : Nat} {blk : Blk} {pl : Pl} (ht : P.underlying t = some (.slice el)) (hi : P.info? el = some i)
    (hk : i.size = k) (h0 : 0 < k) (hS : SimV μ K w) (hn : K h.length = none) (hK : K b = some blk) (hlive : blk.st = .live) (hm : μ b = some pl) (hs : Src P k tx x n vn w) (hvn : VL μ news vn) (hold : VL μ old olds) (hol : olds.length = len * k)
    (hro : w.rangeAt pl.r (pl.δ + off) olds) (hroom : len + n ≤ cap') (htot : pl.δ + off + cap' * k ≤ pl.tot) {le : Option TypeId} (hlel : ∀ t, le = some t → blk.el = some t) :
    ∃ μ' r w', (Builtin.append_ #[t, tx] ty #[.slice (some ⟨pl.r, pl.δ + off, none⟩) len cap', x]).run P w = .ok r w' ∧ VR μ' (.slc h.length 0 (len + n) (len + n) k false) r ∧
      Step μ K w μ' ((K.set b { blk with st := .dead }).set h.length { cells := old ++ news, st := .live, el := le }) w' ∧ SimV μ' ((K.set b { blk with st := .dead }).set h.length { cells := old ++ news, st := .live, el := le }) w' := by
  subst hk
  have hmn : μ h.length = none := by
    cases hq : μ h.length with
    | none => rfl
    | some q => obtain ⟨b, hb⟩ := hS.dom _ q hq; rw [hn] at hb; simp at hb
  obtain ⟨pl', hm', hB⟩ := hS.blk b blk hK
  rw [hm] at hm'; simp at hm'; subst hm'
  have hB := hB (by rw [hlive]; simp)
  unfold BlkOK at hB
  rw [if_neg (by rw [hlive]; simp)] at hB
  obtain ⟨arr, el', fr, h1, h2, h3, h4, h5, _, h7⟩ := hB
  have hnl := hs.newsLen
  have hle : len * i.size + n * i.size ≤ cap' * i.size := by rw [← Nat.add_mul]; exact Nat.mul_le_mul_right _ hroom
  have hin : ∀ j, j < vn.length → pl.δ + off + len * i.size + j < arr.size := fun j hj => by omega
  have hrun := run_append_room_src (P := P) w t tx ty el i ht hi pl.r (pl.δ + off) len cap' x n vn hs hroom (fun j hj => by
    rw [cell_of_row w pl.r _ arr el' fr h1, Array.getElem?_eq_getElem (hin j hj)]; rfl) (fun j hj => soft_frozen h1 (h5 hlive) (hin j hj))
  obtain ⟨arr', g1, g2, g3⟩ := setCells_heap vn (pl.δ + off + len * i.size) w arr h1 (by omega)
  obtain ⟨r1, r2, r3, r4⟩ := setCells_rest (r := pl.r) vn (pl.δ + off + len * i.size) w
  have ho := hold.length
  have hnn := hvn.length
  have hov := sim_over (w' := w.setCells pl.r (pl.δ + off + len * i.size) vn) (n := h.length) (pl' := { r := pl.r, δ := pl.δ + off, tot := pl.tot }) (nw := { cells := old ++ news, st := .live, el := le }) hS hK (.inl hlive) hm hn rfl r4
    (fun r hr => setCells_other vn _ w r hr) r1 r2 r3 (by
      unfold BlkOK
      rw [if_neg (by simp)]
      refine ⟨arr', el', fr, g1, by rw [g2, h2], ?_, ?_, fun _ => by rw [g2]; exact h5 hlive, (fun t ht => by simp at ht), fun t ht => h7 t (hlel t ht)⟩
      · simp; omega
      · intro j c hc
        simp only at hc ⊢
        rw [g3]
        by_cases hj : j < old.length
        · rw [List.getElem?_append_left hj] at hc
          rw [if_neg (by omega)]
          obtain ⟨u, hu, hr⟩ := hold.get hc
          have := hro j u hu
          rw [cell_of_row w pl.r _ arr el' fr h1] at this
          exact ⟨u, this, hr.mono (Mp.le_set hmn)⟩
        · rw [List.getElem?_append_right (by omega)] at hc
          obtain ⟨u, hu, hr⟩ := hvn.get hc
          have := (List.getElem?_eq_some_iff.1 hu).1
          rw [if_pos (by omega)]
          refine ⟨u, ?_, hr.mono (Mp.le_set hmn)⟩
          rw [← hu]; congr 1; omega)
  refine ⟨_, _, _, hrun, ?_, hov.2, hov.1⟩
  exact VR.of_c ⟨_, _, cap', Mp.set_same _ _ _, rfl, Nat.le_refl _, hroom, fun hh => by simp at hh, h0, .inr ⟨by simp, by simpa using htot⟩⟩

theorem elOf_blk {h : Heap} {b : Nat} {t t' : TypeId} {blk : Blk} (hb : h[b]? = some blk) (ht : elOf h b t = some t') : blk.el = some t' := by
  unfold elOf at ht
  rw [hb] at ht
  simp only at ht
  split at ht
  · rename_i he; rw [he]; exact ht
  · simp at ht

theorem elOf_ty {h : Heap} {b : Nat} {t t' : TypeId} (ht : elOf h b t = some t') : t = t' := by
  unfold elOf at ht
  split at ht
  · split at ht
    · simpa using ht
    · simp at ht
  · simp at ht

theorem app_sim {t tx ty el : TypeId} {d : TypeDesc} {i : TypeInfo} {z : Value} {k bytes : Nat} {st : Bool} {cs cx : CV} {us ux : Value} (ht : P.underlying t = some (.slice el)) (hd : P.underlying tx = some d) (hst : (st = false ∧ ∃ e', d = .slice e') ∨ (st = true ∧ d = .string))
    (hi : P.info? el = some i) (hz : i.zero = some z) (hk : i.size = k) (hby : i.bytes = bytes) (h0 : 0 < k) (hzk : z.cells.size = k) (hS : SimV μ K w) (hA1 : ∀ b, blockOf cs = some b → ∀ blk, b < h.length → K b = some blk → h[b]? = some blk)
    (hA2 : ∀ b, blockOf cx = some b → ∀ blk, b < h.length → K b = some blk → h[b]? = some blk) (hn : h.length < h'.length → K h.length = none) (hs : VR μ cs us) (hx : VR μ cx ux) (hv : append h el k bytes st cs cx = some (v, h')) :
    AppSim P t tx ty us ux μ K w v h h' := by
  unfold append at hv
  split at hv
  · simp at hv
  · rename_i news n hsrc
    obtain ⟨vn, hvn, hsr⟩ := src_ok hS hA2 hd hst hx hsrc
    split at hv
    · split at hv
      · rename_i hn0
        subst hn0
        simp at hv
        obtain ⟨rfl, rfl⟩ := hv
        exact app_same ht hi hk hS hsr hs (.inl rfl)
      · split at hv
        · rename_i hn0 hb
          simp at hv
          obtain ⟨rfl, rfl⟩ := hv
          simp only [VR, VRa, VRc] at hs
          subst hs
          obtain ⟨μ', r, w', g1, g2, g3, g4⟩ := app_grow (P := P) (ty := ty) (h := h) (base := none) (sLen := 0) (sCap := 0) (olds := []) (old := []) ht hi hz hk hby h0 hzk hS (hn (by simp)) hsr hvn trivial (by simp) (run_firstCells_none w.drew k 0 0 0) (by omega) (by simpa using hb.1) (by simpa using hb.2) (le := some el) (fun t h => by simpa using h)
          refine ⟨μ', r, w', g1, by simpa using g2, ?_, ?_⟩
          · rw [updK_push]; simpa using g3
          · rw [updK_push]; simpa using g4
        · simp at hv
    · rename_i b off len cap k' ex
      split at hv
      · simp at hv
      · rename_i hkk
        have hkk' : k' = k := by simpa using hkk
        subst hkk'
        have hs0 := hs
        simp only [VR, VRa, VRc] at hs
        obtain ⟨pl, ad, cap', hm, rfl, q1, q2, q3, q4, q5⟩ := hs
        split at hv
        · rename_i hn0
          subst hn0
          simp at hv
          obtain ⟨rfl, rfl⟩ := hv
          exact app_same ht hi hk hS hsr hs0 (.inr ⟨_, _, _, _, _, _, rfl⟩)
        · rename_i hn0
          split at hv
          · rename_i hroom
            simp only [Option.map_eq_some_iff, Prod.mk.injEq] at hv
            obtain ⟨h1, hstc, rfl, rfl⟩ := hv
            rcases q5 with q5 | ⟨rfl, q5⟩
            · omega
            · obtain ⟨p1, p2, p3, p4⟩ := st_sim hS (hA1 b rfl) hm hvn hstc
              subst hk
              have hrun := run_append_room_src (P := P) w t tx ty el i ht hi pl.r (pl.δ + off) len cap' ux n vn hsr (by omega) (by simpa [Nat.add_assoc] using p1) (by simpa [Nat.add_assoc] using p2)
              rw [Nat.add_assoc] at hrun
              exact ⟨μ, _, _, hrun, VR.of_c ⟨pl, _, cap', hm, rfl, by omega, q2, q3, q4, .inr ⟨rfl, q5⟩⟩, p4, p3⟩
          · rename_i hroom
            split at hv
            · rename_i hb
              split at hv
              · simp at hv
              · rename_i old hld
                obtain ⟨olds, o1, o2, o3⟩ := ld_at hS (hA1 b rfl) hm hld
                have hof : (Builtin.firstCells k' len (.slice (some ad) len cap')).run P w.drew = .ok olds.toArray w.drew := by
                  refine run_firstCells_some w.drew k' len ad len cap' olds o2 ?_
                  rcases q5 with q5 | ⟨rfl, _⟩
                  · have h00 : len = 0 := by omega
                    subst h00
                    simp at o2
                    subst o2
                    intro j u hu; simp at hu
                  · intro j u hu
                    have := addr_range o3 j u hu
                    simpa using this
                split at hv
                · rename_i hex
                  simp at hv
                  obtain ⟨rfl, rfl⟩ := hv
                  have hcc := q3 hex
                  obtain ⟨μ', r, w', g1, g2, g3, g4⟩ := app_grow (P := P) (ty := ty) (h := h) ht hi hz hk hby h0 hzk hS (hn (by simp)) hsr hvn o1 o2 hof (by omega) hb.1 hb.2 (le := some el) (fun t h => by simpa using h)
                  exact ⟨μ', r, w', g1, g2, by rw [updK_push]; exact g3, by rw [updK_push]; exact g4⟩
                · simp only [Option.map_eq_some_iff, Prod.mk.injEq] at hv
                  obtain ⟨h1, hkill, rfl, rfl⟩ := hv
                  unfold Heap.kill at hkill
                  split at hkill
                  · rename_i blk hblk
                    split at hkill
                    · rename_i hlive
                      simp at hkill
                      subst hkill
                      have hKn := hn (by simp)
                      obtain ⟨hK, _⟩ := blk_at hS (hA1 b rfl) hm hblk
                      by_cases hreal : len + n ≤ cap'
                      · rcases q5 with q5 | ⟨rfl, q5⟩
                        · omega
                        · obtain ⟨μ', r, w', g1, g2, g3, g4⟩ := app_over (P := P) (ty := ty) (h := h) ht hi hk h0 hS hKn hK hlive hm hsr hvn o1 o2 o3 hreal q5 (le := elOf h b el) (fun t ht => elOf_blk hblk ht)
                          exact ⟨μ', r, w', g1, g2, by rw [updK_set_push hblk hK]; exact g3, by rw [updK_set_push hblk hK]; exact g4⟩
                      · obtain ⟨s1, s2⟩ := sim_upd (w' := w) (blk' := { blk with st := .dead }) hS hK (.inl hlive) hm rfl (fun _ _ => rfl) rfl rfl rfl (fun hh => absurd rfl hh)
                        have hKn' : (K.set b { blk with st := .dead }) h.length = none := by
                          rw [View.set_ne]
                          · exact hKn
                          · have := (List.getElem?_eq_some_iff.1 hblk).1; omega
                        obtain ⟨μ', r, w', g1, g2, g3, g4⟩ := app_grow (P := P) (ty := ty) (h := h) ht hi hz hk hby h0 hzk s1 hKn' hsr hvn o1 o2 hof (by omega) hb.1 hb.2 (le := elOf h b el) (fun t ht => elOf_ty ht)
                        exact ⟨μ', r, w', g1, g2, by rw [updK_set_push hblk hK]; exact s2.trans g3, by rw [updK_set_push hblk hK]; exact g4⟩
                    · simp at hkill
                  · simp at hkill
            · simp at hv
    · simp at hv

end
end Go.Cn
