/- A tree of numbers. -/
import Derived.Test.YtlmlpgmpdaepkaaDoorCdSame2
set_option linter.unusedSimpArgs false
set_option linter.unusedVariables false
set_option linter.unusedSectionVars false
namespace Go.Cn.D
open Go.Proofs
set_option maxRecDepth 100000

def kidsZ (z : Int) : Int := ibits .and .i64 (z.fdiv 8) 3
def keyZ (z : Int) : Int := (ibits .and .i64 (z.fdiv 32) 255).tmod 9
def textZ (z : Int) : Int := (ibits .and .i64 (z.fdiv 8) 255).tmod 9
def kindZ (z : Int) : Int := IntKind.i64.wrap ((ibits .and .i64 z 7).tmod 7 + 1)
def numZ (z : Int) : Int := IntKind.i64.wrap (z.fdiv 8 * IntKind.i64.wrap (1 - IntKind.i64.wrap (ibits .and .i64 (z.fdiv 1048576) 1 * 2)))

theorem kidsZ_le (z : Int) : 0 ≤ kidsZ z ∧ kidsZ z ≤ 3 := by have := and_le (z.fdiv 8) 3 (by decide); unfold kidsZ; simpa using this
theorem tmod9 {x : Int} (h : 0 ≤ x) : ∃ k : Nat, x.tmod 9 = k ∧ k < 9 := by
  refine ⟨(x % 9).toNat, ?_, ?_⟩
  · rw [Int.tmod_eq_emod_of_nonneg h]; omega
  · omega
theorem keyZ_lt (z : Int) : ∃ k : Nat, keyZ z = k ∧ k < 9 := tmod9 (by simpa using (and_le (z.fdiv 32) 255 (by decide)).1)
theorem textZ_lt (z : Int) : ∃ k : Nat, textZ z = k ∧ k < 9 := tmod9 (by simpa using (and_le (z.fdiv 8) 255 (by decide)).1)
theorem kindZ_le (z : Int) : 1 ≤ kindZ z ∧ kindZ z ≤ 7 := by
  have := and_le z 7 (by decide)
  simp only [kindZ, IntKind.wrap_i64]
  rw [Int.tmod_eq_emod_of_nonneg (by simpa using this.1)]
  omega

def texts : List ByteArray := [bs [], bs [97], bs [98], bs [195, 169], bs [34, 92], bs [10, 9], bs [1], bs [240, 159, 152, 128], bs [108, 111, 110, 103, 32, 110, 97, 109, 101]]
def keyAt (z : Int) (i : Nat) : ByteArray := (texts[i]?).getD (bs []) ++ (texts[(keyZ z).toNat]?).getD (bs [])

def kidsF (f : List Int → J × List Int) (key : Nat → ByteArray) : Nat → Nat → List Int → List J × List ByteArray × List Int
  | 0, _, l => ([], [], l)
  | m + 1, i, l => ((f l).1 :: (kidsF f key m (i + 1) (f l).2).1, key i :: (kidsF f key m (i + 1) (f l).2).2.1, (kidsF f key m (i + 1) (f l).2).2.2)

def treeF : Nat → List Int → J × List Int
  | _, [] => (.mk 1 0 (bs []) [] [] 0, [])
  | 0, z :: l => (.mk (kindZ z) (if kindZ z = 4 then numZ z else 0) (if kindZ z = 5 then (texts[(textZ z).toNat]?).getD (bs []) else bs []) [] [] 0, l)
  | n + 1, z :: l =>
    if kindZ z = 6 ∨ kindZ z = 7 then
      (.mk (kindZ z) 0 (bs []) (kidsF (treeF n) (keyAt z) (kidsZ z).toNat 0 l).1 (if kindZ z = 7 then (kidsF (treeF n) (keyAt z) (kidsZ z).toNat 0 l).2.1 else []) 0, (kidsF (treeF n) (keyAt z) (kidsZ z).toNat 0 l).2.2)
    else (.mk (kindZ z) (if kindZ z = 4 then numZ z else 0) (if kindZ z = 5 then (texts[(textZ z).toNat]?).getD (bs []) else bs []) [] [] 0, l)

def ints (l : List Int) : List (List CV) := l.map fun z => [.int .i64 z]
theorem ints_cons {z : Int} {l : List Int} : ints (z :: l) = [.int .i64 z] :: ints l := rfl

/-- the slice behind its first element -/
theorem Sl.tail {S : Nat → Prop} {H : Heap} {k b off len cap : Nat} {ex : Bool} {x : List CV} {xs : List (List CV)} (h : Sl S H k (.slc b off len cap k ex) (x :: xs)) : len = xs.length + 1 ∧ Sl S H k (.slc b (off + k) xs.length (cap - 1) k ex) xs := by
  rcases h with ⟨h, _⟩ | ⟨b', off', cap', ex', blk, h1, h2, hs, h3, h4, h5, h6⟩
  · simp at h
  · simp only [CV.slc.injEq, List.length_cons] at h1
    obtain ⟨rfl, rfl, rfl, rfl, _, rfl⟩ := h1
    refine ⟨rfl, .inr ⟨b, off + k, _, _, blk, rfl, h2, hs, h3, ?_, ?_, fun y hy => h6 y (by simp [hy])⟩⟩
    · have hx := h6 x (by simp)
      have h4' := congrArg (List.drop k) h4
      simp only [List.length_cons, List.flatten_cons, Nat.succ_mul] at h4'
      have hr : (x ++ xs.flatten).drop k = xs.flatten := by rw [← hx]; exact List.drop_left
      rw [hr, List.drop_take, List.drop_drop] at h4'
      rw [← h4']
      congr 1
      omega
    · simp only [List.length_cons, Nat.succ_mul] at h5
      omega

/-- what the call of Tree comes to -/
def TreeOK (n : Nat) (d : Nat) : Prop := ∀ (S : Nat → Prop) (H : Heap) (cv : CV) (l : List Int), Sl S H 1 cv (ints l) →
  ∃ H' cs cv', den Tryd.prog hookD 11 [cv, .int .i64 d] H = some (.tup [.agg cs, cv'], H') ∧ Fr (fun _ => False) H H' ∧ RJ (n + 1) (fun c => c < H.length) H' (treeF n l).1 cs ∧ Sl S H' 1 cv' (ints (treeF n l).2)

def Bad (B0 pj : Nat) (gl gk : Option Nat) : Nat → Prop := fun c => c < B0 ∨ c = pj ∨ gl = some c ∨ gk = some c

/-- the state of the loop -/
structure TS (R : Nat → Prop) (H0 : Heap) (n : Nat) (kind : Int) (pj : Nat) (lcv kcv tcv cvl : CV) (xs : List (List CV)) (gl gk : Option Nat) (js : List J) (ks : List ByteArray) (rest : List Int) (H : Heap) : Prop where
  len : H0.length ≤ H.length
  pre : ∀ c, c < H0.length → H[c]? = H0[c]?
  pjg : H0.length ≤ pj
  hj : H[pj]? = some { cells := [.int .i64 kind, .int .i64 0, .str (bs []), lcv, kcv, .int .i64 0], st := .live, ty := some 28 }
  ol : Ow H 28 6 lcv xs gl
  ok : Ow H 9 1 kcv (strs ks) gk
  gl_ : ∀ c, gl = some c → H0.length ≤ c ∧ c ≠ pj
  gk_ : ∀ c, gk = some c → H0.length ≤ c ∧ c ≠ pj ∧ gl ≠ some c
  xl : xs.length = js.length
  xr : ∀ (i : Nat) x c, js[i]? = some x → xs[i]? = some c → RJ n (Bad H0.length pj gl gk) H x c
  tx : Sl (Bad H0.length pj gl gk) H 1 tcv (strs texts)
  rs : Sl (fun c => R c ∨ H0.length ≤ c) H 1 cvl (ints rest)

theorem TS.grow {R : Nat → Prop} {H0 : Heap} {n : Nat} {kind : Int} {pj : Nat} {lcv kcv tcv cvl : CV} {xs : List (List CV)} {gl gk : Option Nat} {js : List J} {ks : List ByteArray} {rest : List Int} {H H' : Heap} (h : TS R H0 n kind pj lcv kcv tcv cvl xs gl gk js ks rest H) (hF : Fr (fun _ => False) H H') :
    TS R H0 n kind pj lcv kcv tcv cvl xs gl gk js ks rest H' := by
  have hf : ∀ c, c < H.length → H'[c]? = H[c]? := fun c hc => hF.2 c hc id
  exact ⟨Nat.le_trans h.len hF.1, fun c hc => by rw [hf c (Nat.lt_of_lt_of_le hc h.len)]; exact h.pre c hc, h.pjg, by rw [hf _ (lt_of_get h.hj)]; exact h.hj, h.ol.mono fun c hc => hf c (h.ol.lt hc), h.ok.mono fun c hc => hf c (h.ok.lt hc), h.gl_, h.gk_, h.xl,
    fun i x c h1 h2 => (h.xr i x c h1 h2).mono fun c hc _ => hf c hc, h.tx.mono fun c hc _ => hf c hc, h.rs.mono fun c hc _ => hf c hc⟩

section
variable {R : Nat → Prop} {H0 : Heap} {n : Nat} {kind : Int} {pj : Nat} {lcv kcv tcv cvl : CV} {xs : List (List CV)} {gl gk : Option Nat} {js : List J} {ks : List ByteArray} {rest : List Int} {H H' : Heap}

theorem TS.bad_lt (h : TS R H0 n kind pj lcv kcv tcv cvl xs gl gk js ks rest H) {c : Nat} (hc : Bad H0.length pj gl gk c) : c < H.length := by
  rcases hc with hc | hc | hc | hc
  · exact Nat.lt_of_lt_of_le hc h.len
  · subst hc; exact lt_of_get h.hj
  · exact h.ol.lt hc
  · exact h.ok.lt hc

theorem TS.key (h : TS R H0 n kind pj lcv kcv tcv cvl xs gl gk js ks rest H) (hl : H.length ≤ H'.length) (hf : ∀ c, c < H.length → c ≠ pj → gk ≠ some c → H'[c]? = H[c]?) {kcv' : CV} {ks' : List ByteArray} {g : Nat}
    (hj : H'[pj]? = some { cells := [.int .i64 kind, .int .i64 0, .str (bs []), lcv, kcv', .int .i64 0], st := .live, ty := some 28 }) (hO : Ow H' 9 1 kcv' (strs ks') (some g)) (hg : H.length ≤ g) :
    TS R H0 n kind pj lcv kcv' tcv cvl xs gl (some g) js ks' rest H' ∧ ∀ (m : Nat) x c, RJ m (Bad H0.length pj gl gk) H x c → RJ m (Bad H0.length pj gl (some g)) H' x c := by
  have hlt := lt_of_get h.hj
  have f1 : ∀ c, c < H.length → ¬ Bad H0.length pj gl gk c → H'[c]? = H[c]? := fun c hc hb => hf c hc (fun e => hb (.inr (.inl e))) (fun e => hb (.inr (.inr (.inr e))))
  have f2 : ∀ c, c < H.length → Bad H0.length pj gl (some g) c → Bad H0.length pj gl gk c := by
    intro c hc hb
    rcases hb with hb | hb | hb | hb
    · exact .inl hb
    · exact .inr (.inl hb)
    · exact .inr (.inr (.inl hb))
    · simp at hb; omega
  refine ⟨⟨Nat.le_trans h.len hl, fun c hc => ?_, h.pjg, hj, h.ol.mono fun c hc => ?_, hO, h.gl_, fun c hc => ?_, h.xl, fun i x c h1 h2 => (h.xr i x c h1 h2).move f1 f2, h.tx.move f1 f2, h.rs.mono fun c hc hn => ?_⟩, fun m x c hr => hr.move f1 f2⟩
  · rw [hf c (Nat.lt_of_lt_of_le hc h.len) (by have := h.pjg; omega) (fun e => by have := (h.gk_ c e).1; omega)]; exact h.pre c hc
  · exact hf c (h.ol.lt hc) (h.gl_ c hc).2 (fun e => (h.gk_ c e).2.2 hc)
  · simp at hc
    subst hc
    exact ⟨Nat.le_trans h.len hg, by omega, fun e => by have := h.ol.lt e; omega⟩
  · exact hf c hc (fun e => hn (.inr (by have := h.pjg; omega))) (fun e => hn (.inr (h.gk_ c e).1))

theorem TS.list (h : TS R H0 n kind pj lcv kcv tcv cvl xs gl gk js ks rest H) (hl : H.length ≤ H'.length) (hf : ∀ c, c < H.length → c ≠ pj → gl ≠ some c → H'[c]? = H[c]?) {lcv' cvl' : CV} {x : J} {cs : List CV} {g : Nat} {rest' : List Int}
    (hj : H'[pj]? = some { cells := [.int .i64 kind, .int .i64 0, .str (bs []), lcv', kcv, .int .i64 0], st := .live, ty := some 28 }) (hO : Ow H' 28 6 lcv' (xs ++ [cs]) (some g)) (hg : H.length ≤ g) (hx : RJ n (Bad H0.length pj gl gk) H x cs)
    (hrs : Sl (fun c => R c ∨ H0.length ≤ c) H 1 cvl' (ints rest')) :
    TS R H0 n kind pj lcv' kcv tcv cvl' (xs ++ [cs]) (some g) gk (js ++ [x]) ks rest' H' := by
  have hlt := lt_of_get h.hj
  have f1 : ∀ c, c < H.length → ¬ Bad H0.length pj gl gk c → H'[c]? = H[c]? := fun c hc hb => hf c hc (fun e => hb (.inr (.inl e))) (fun e => hb (.inr (.inr (.inl e))))
  have f2 : ∀ c, c < H.length → Bad H0.length pj (some g) gk c → Bad H0.length pj gl gk c := by
    intro c hc hb
    rcases hb with hb | hb | hb | hb
    · exact .inl hb
    · exact .inr (.inl hb)
    · simp at hb; omega
    · exact .inr (.inr (.inr hb))
  refine ⟨Nat.le_trans h.len hl, fun c hc => ?_, h.pjg, hj, hO, h.ok.mono fun c hc => ?_, fun c hc => ?_, fun c hc => ?_, by simp [h.xl], fun i y c h1 h2 => ?_, h.tx.move f1 f2, hrs.mono fun c hc hn => ?_⟩
  · rw [hf c (Nat.lt_of_lt_of_le hc h.len) (by have := h.pjg; omega) (fun e => by have := (h.gl_ c e).1; omega)]; exact h.pre c hc
  · exact hf c (h.ok.lt hc) (h.gk_ c hc).2.1 (fun e => (h.gk_ c hc).2.2 e)
  · simp at hc
    subst hc
    exact ⟨Nat.le_trans h.len hg, by omega⟩
  · refine ⟨(h.gk_ c hc).1, (h.gk_ c hc).2.1, fun e => ?_⟩
    simp at e
    have := h.ok.lt hc
    omega
  · by_cases hi : i < js.length
    · rw [List.getElem?_append_left hi] at h1
      rw [List.getElem?_append_left (by rw [h.xl]; exact hi)] at h2
      exact (h.xr i y c h1 h2).move f1 f2
    · rw [List.getElem?_append_right (by omega)] at h1
      rw [List.getElem?_append_right (by have := h.xl; omega), h.xl] at h2
      cases hq : i - js.length with
      | succ k => rw [hq] at h1; simp at h1
      | zero =>
        rw [hq] at h1 h2
        simp at h1 h2
        subst h1; subst h2
        exact hx.move f1 f2
  · exact hf c hc (fun e => hn (.inr (by have := h.pjg; omega))) (fun e => hn (.inr (h.gl_ c e).1))
end

theorem round11_list {n d : Nat} (ih : TreeOK n (d + 1)) (hd : d < 6) {R : Nat → Prop} {H0 : Heap} {z : Int} {pj i : Nat} {lcv kcv tcv cvl : CV} {xs : List (List CV)} {gl gk : Option Nat} {js : List J} {ks : List ByteArray} {rest : List Int} {H : Heap} {e : Env}
    (h : TS R H0 (n + 1) 6 pj lcv kcv tcv cvl xs gl gk js ks rest H) (h0 : e 0 = cvl) (h1 : e 1 = .int .i64 d) (h6 : e 6 = .int .i64 z) (h7 : e 7 = tcv) (h8 : e 8 = .ptr pj 0) (h9 : e 9 = .int .i64 i) (hi : (i : Int) < kidsZ z) (hc : js.length ≤ 3) :
    ∃ e' H' lcv' cvl' xs' gl', dCode Tryd.prog hookD c11.l0 e H = some (.normal, e', H') ∧ TS R H0 (n + 1) 6 pj lcv' kcv tcv cvl' xs' gl' gk (js ++ [(treeF n rest).1]) ks (treeF n rest).2 H' ∧
      e' 0 = cvl' ∧ e' 1 = .int .i64 d ∧ e' 6 = .int .i64 z ∧ e' 7 = tcv ∧ e' 8 = .ptr pj 0 ∧ e' 9 = .int .i64 ((i + 1 : Nat) : Int) ∧ e' 4 = e 4 := by
  obtain ⟨H1, cs, cv', dc, F1, R1, S1⟩ := ih _ H cvl rest h.rs
  have h1' := h.grow F1
  have l1 := F1.1
  have hcs := R1.len
  have hpj := lt_of_get h.hj
  let H3 : Heap := H1 ++ [{ cells := cs, st := .live, ty := some 28 }, { cells := cs, st := .live }]
  have hs3 : H3.ld (H1.length + 1) 0 6 = some cs := by
    rw [ld_of (blk := { cells := cs, st := .live }) (by simp [H3]) (.inl rfl) (by simp [hcs])]
    simp only [List.drop_zero]
    rw [List.take_of_length_le (Nat.le_of_eq hcs)]
  obtain ⟨H4, ha, hO4, hl4, F4⟩ := (h1'.ol.app (G := [{ cells := cs, st := .live, ty := some 28 }, { cells := cs, st := .live }])).one (bytes := 88) (cap := 1) (ex := true) hs3 (by have := h.xl; unfold capB; omega)
  have hl3 : H3.length = H1.length + 2 := by simp [H3]
  have hw : IntKind.i64.wrap ((i : Int) + 1) = ((i + 1 : Nat) : Int) := by
    have := kidsZ_le z
    rw [IntKind.wrap_i64]; omega
  have hwd : IntKind.i64.wrap ((d : Int) + 1) = ((d + 1 : Nat) : Int) := by rw [IntKind.wrap_i64]; omega
  have hdI : (d : Int) < 6 := by omega
  have hj4 : H4[pj]? = some { cells := [.int .i64 6, .int .i64 0, .str (bs []), lcv, kcv, .int .i64 0], st := .live, ty := some 28 } := by
    rw [F4.2 pj (by rw [hl3]; omega) (fun hc => (h.gl_ _ hc).2 rfl)]
    exact get_push h1'.hj
  have hjj : ∀ l, (H1 ++ l)[pj]? = some { cells := [.int .i64 6, .int .i64 0, .str (bs []), lcv, kcv, .int .i64 0], st := .live, ty := some 28 } := fun l => get_push h1'.hj
  let H5 : Heap := H4.set pj { cells := [.int .i64 6, .int .i64 0, .str (bs []), .slc H3.length 0 (xs.length + 1) (xs.length + 1) 6 false, kcv, .int .i64 0], st := .live, ty := some 28 }
  have hct : cs.take 6 = cs := List.take_of_length_le (Nat.le_of_eq hcs)
  have key : ∃ e', dCode Tryd.prog hookD c11.l0 e H = some (.normal, e', H5) ∧ e' 0 = cv' ∧ e' 1 = .int .i64 d ∧ e' 6 = .int .i64 z ∧ e' 7 = tcv ∧ e' 8 = .ptr pj 0 ∧ e' 9 = .int .i64 ((i + 1 : Nat) : Int) ∧ e' 4 = e 4 := by
    simp only [kidsZ] at hi
    push_cast at dc
    simp [c11.l0, h0, h1, h6, h7, h8, h9, hi, hd, hdI, hwd, dc, hcs, hct, hjj, ha, hj4, hw, H5, H3]
  obtain ⟨e', k1, k2, k3, k4, k5, k6, k7, k8⟩ := key
  have hb : RJ (n + 1) (Bad H0.length pj gl gk) H1 (treeF n rest).1 cs := R1.weak fun c _ hb => h.bad_lt hb
  have hlt4 := lt_of_get hj4
  have T5 := h1'.list (H' := H5) (lcv' := .slc H3.length 0 (xs.length + 1) (xs.length + 1) 6 false) (g := H3.length) (by simp [H5, hl4]; omega) (fun c hc hn hg => by
      simp only [H5]
      rw [List.getElem?_set_ne (Ne.symm hn), F4.2 c (by simp; omega) hg, List.getElem?_append_left hc]) (by simp [H5, hlt4]) (hO4.mono fun c hc => by
      simp at hc
      simp only [H5]
      rw [List.getElem?_set_ne (by simp [H3] at hl3; omega)]) (by omega) hb S1
  exact ⟨e', H5, _, cv', _, _, k1, T5, k2, k3, k4, k5, k6, k7, k8⟩

theorem texts_at {k : Nat} (hk : k < 9) : ∃ t, texts[k]? = some t ∧ t.size ≤ 16 ∧ (texts[k]?).getD (bs []) = t := by
  have h9 : texts.length = 9 := rfl
  refine ⟨texts[k]'(by omega), List.getElem?_eq_getElem (by omega), ?_, by rw [List.getElem?_eq_getElem (by omega)]; rfl⟩
  have : ∀ t ∈ texts, t.size ≤ 16 := by decide +kernel
  exact this _ (List.getElem_mem _)

theorem round11_map {n d : Nat} (ih : TreeOK n (d + 1)) (hd : d < 6) {R : Nat → Prop} {H0 : Heap} {z : Int} {pj i : Nat} {lcv kcv tcv cvl : CV} {xs : List (List CV)} {gl gk : Option Nat} {js : List J} {ks : List ByteArray} {rest : List Int} {H : Heap} {e : Env}
    (h : TS R H0 (n + 1) 7 pj lcv kcv tcv cvl xs gl gk js ks rest H) (h0 : e 0 = cvl) (h1 : e 1 = .int .i64 d) (h6 : e 6 = .int .i64 z) (h7 : e 7 = tcv) (h8 : e 8 = .ptr pj 0) (h9 : e 9 = .int .i64 i) (hi : (i : Int) < kidsZ z) (hc : js.length ≤ 3) (hkc : ks.length ≤ 3) :
    ∃ e' H' lcv' kcv' cvl' xs' gl' gk', dCode Tryd.prog hookD c11.l0 e H = some (.normal, e', H') ∧ TS R H0 (n + 1) 7 pj lcv' kcv' tcv cvl' xs' gl' gk' (js ++ [(treeF n rest).1]) (ks ++ [keyAt z i]) (treeF n rest).2 H' ∧
      e' 0 = cvl' ∧ e' 1 = .int .i64 d ∧ e' 6 = .int .i64 z ∧ e' 7 = tcv ∧ e' 8 = .ptr pj 0 ∧ e' 9 = .int .i64 ((i + 1 : Nat) : Int) ∧ e' 4 = e 4 := by
  obtain ⟨H1, cs, cv', dc, F1, R1, S1⟩ := ih _ H cvl rest h.rs
  have h1' := h.grow F1
  have l1 := F1.1
  have hcs := R1.len
  have hpj := lt_of_get h.hj
  have hkz := kidsZ_le z
  obtain ⟨q, hq, hq9⟩ := keyZ_lt z
  obtain ⟨t1, ht1, hs1, hg1⟩ := texts_at (k := i) (by omega)
  obtain ⟨t2, ht2, hs2, hg2⟩ := texts_at hq9
  have hkey : keyAt z i = t1 ++ t2 := by
    have : (keyZ z).toNat = q := by omega
    simp only [keyAt, this, hg1, hg2]
  obtain ⟨b1, o1, ha1, hl1, _⟩ := h1'.tx.at (strs_at ht1)
  obtain ⟨b2, o2, ha2, hl2, _⟩ := h1'.tx.at (strs_at ht2)
  have hl1' : ∀ l, ldB (H1 ++ l)[b1]? o1 1 = some [.str t1] := fun l => by rw [← ld_eq]; exact ld_app hl1
  have hl2' : ∀ l, ldB (H1 ++ l)[b2]? o2 1 = some [.str t2] := fun l => by rw [← ld_eq]; exact ld_app hl2
  have hlt := fun h => h1'.tx.len (h := h)
  have h9' : ((strs texts).length : Int) = 9 := rfl
  simp only [h9'] at hlt
  -- the key
  let K3 : Heap := H1 ++ [{ cells := cs, st := .live, ty := some 28 }, { cells := [.str (t1 ++ t2)], st := .live }]
  have hks3 : K3.ld (H1.length + 1) 0 1 = some [.str (t1 ++ t2)] := by
    rw [ld_of (blk := { cells := [.str (t1 ++ t2)], st := .live }) (by simp [K3]) (.inl rfl) (by simp)]
    rfl
  obtain ⟨K4, hka, hKO, hkl4, KF4⟩ := (h1'.ok.app (G := [{ cells := cs, st := .live, ty := some 28 }, { cells := [.str (t1 ++ t2)], st := .live }])).one (bytes := 16) (cap := 1) (ex := true) hks3 (by rw [strs_len]; unfold capB; omega)
  have hk3 : K3.length = H1.length + 2 := by simp [K3]
  have hk3' : (H1 ++ [({ cells := cs, st := .live, ty := some 28 } : Blk), { cells := [.str (t1 ++ t2)], st := .live }]).length = H1.length + 2 := by simp
  simp only [strs_len] at hka hKO
  rw [hk3'] at hka hKO
  let kcv' : CV := .slc (H1.length + 2) 0 (ks.length + 1) (ks.length + 1) 1 false
  have hjk : K4[pj]? = some { cells := [.int .i64 7, .int .i64 0, .str (bs []), lcv, kcv, .int .i64 0], st := .live, ty := some 28 } := by
    rw [KF4.2 pj (by rw [hk3]; omega) (fun hc => (h.gk_ _ hc).2.1 rfl)]
    exact get_push h1'.hj
  have hltk := lt_of_get hjk
  let H2 : Heap := K4.set pj { cells := [.int .i64 7, .int .i64 0, .str (bs []), lcv, kcv', .int .i64 0], st := .live, ty := some 28 }
  have l2 : H2.length = H1.length + 3 := by simp [H2, hkl4, hk3]
  have fk : ∀ c, c < H1.length → c ≠ pj → gk ≠ some c → H2[c]? = H1[c]? := fun c hc hn hg => by
    simp only [H2]
    rw [List.getElem?_set_ne (Ne.symm hn), KF4.2 c (by simp; omega) hg, List.getElem?_append_left hc]
  obtain ⟨T2, RT⟩ := h1'.key (H' := H2) (kcv' := kcv') (ks' := ks ++ [keyAt z i]) (g := H1.length + 2) (by omega) fk (by simp [H2, hltk]) (by
      have : strs (ks ++ [keyAt z i]) = strs ks ++ [[.str (t1 ++ t2)]] := by simp [strs, hkey]
      rw [this]
      refine hKO.mono fun c hc => ?_
      simp at hc
      simp only [H2]
      rw [List.getElem?_set_ne (by simp [K3] at hk3; omega)]) (by omega)
  have hb : RJ (n + 1) (Bad H0.length pj gl (some (H1.length + 2))) H2 (treeF n rest).1 cs := RT _ _ _ (R1.weak fun c _ hb => h.bad_lt hb)
  have hcell2 : H2[H1.length]? = some { cells := cs, st := .live, ty := some 28 } := by
    simp only [H2]
    rw [List.getElem?_set_ne (by omega), KF4.2 _ (by rw [hk3]; omega) (fun hc => by have := h.ok.lt hc; omega)]
    simp
  -- the list
  let H3 : Heap := H2 ++ [{ cells := cs, st := .live }]
  have hH2 : K4.length = H2.length := by simp [H2]
  have hs3 : H3.ld K4.length 0 6 = some cs := by
    rw [hH2, ld_of (blk := { cells := cs, st := .live }) (by simp [H3]) (.inl rfl) (by simp [hcs])]
    simp only [List.drop_zero]
    rw [List.take_of_length_le (Nat.le_of_eq hcs)]
  obtain ⟨H4, ha, hO4, hl4, F4⟩ := (T2.ol.app (G := [{ cells := cs, st := .live }])).one (bytes := 88) (cap := 1) (ex := true) hs3 (by have := h.xl; unfold capB; omega)
  have hl3' : (H2 ++ [({ cells := cs, st := .live } : Blk)]).length = K4.length + 1 := by simp [H2]
  rw [hl3'] at ha hO4
  have hl3 : H3.length = H2.length + 1 := by simp [H3]
  have hw : IntKind.i64.wrap ((i : Int) + 1) = ((i + 1 : Nat) : Int) := by rw [IntKind.wrap_i64]; omega
  have hwd : IntKind.i64.wrap ((d : Int) + 1) = ((d + 1 : Nat) : Int) := by rw [IntKind.wrap_i64]; omega
  have hdI : (d : Int) < 6 := by omega
  have hj4 : H4[pj]? = some { cells := [.int .i64 7, .int .i64 0, .str (bs []), lcv, kcv', .int .i64 0], st := .live, ty := some 28 } := by
    rw [F4.2 pj (by rw [hl3]; omega) (fun hc => (h.gl_ _ hc).2 rfl)]
    exact get_push T2.hj
  have hjj : ∀ l, (H1 ++ l)[pj]? = some { cells := [.int .i64 7, .int .i64 0, .str (bs []), lcv, kcv, .int .i64 0], st := .live, ty := some 28 } := fun l => get_push h1'.hj
  let H5 : Heap := H4.set pj { cells := [.int .i64 7, .int .i64 0, .str (bs []), .slc (K4.length + 1) 0 (xs.length + 1) (xs.length + 1) 6 false, kcv', .int .i64 0], st := .live, ty := some 28 }
  have hct : cs.take 6 = cs := List.take_of_length_le (Nat.le_of_eq hcs)
  have hszI : ¬ (9223372036854775807 : Int) < t1.size + t2.size := by omega
  have key : ∃ e', dCode Tryd.prog hookD c11.l0 e H = some (.normal, e', H5) ∧ e' 0 = cv' ∧ e' 1 = .int .i64 d ∧ e' 6 = .int .i64 z ∧ e' 7 = tcv ∧ e' 8 = .ptr pj 0 ∧ e' 9 = .int .i64 ((i + 1 : Nat) : Int) ∧ e' 4 = e 4 := by
    simp only [kidsZ] at hi
    simp only [keyZ] at hq
    push_cast at dc
    have hT2 := T2.hj
    simp only [H2, kcv'] at ha hT2 hcell2 hj4
    have hTT : ∀ l, (K4.set pj { cells := [.int .i64 7, .int .i64 0, .str (bs []), lcv, .slc (H1.length + 2) 0 (ks.length + 1) (ks.length + 1) 1 false, .int .i64 0], st := .live, ty := some 28 } ++ l)[pj]? = _ := fun l => get_push hT2
    simp [c11.l0, h0, h1, h6, h7, h8, h9, hi, hd, hdI, hwd, dc, hcs, hct, hjj, ha1, hl1', hq, ha2, hl2', hlt, hszI, hka, hjk, hT2, hcell2, ha, hj4, hw, H5, kcv']
  obtain ⟨e', k1, k2, k3, k4, k5, k6, k7, k8⟩ := key
  have hlt4 := lt_of_get hj4
  have T5 := T2.list (H' := H5) (lcv' := .slc (K4.length + 1) 0 (xs.length + 1) (xs.length + 1) 6 false) (g := K4.length + 1) (by simp [H5, hl4]; omega) (fun c hc hn hg => by
      simp only [H5]
      rw [List.getElem?_set_ne (Ne.symm hn), F4.2 c (by simp; omega) hg, List.getElem?_append_left hc]) (by simp [H5, hlt4, kcv']) (hO4.mono fun c hc => by
      simp at hc
      simp only [H5]
      rw [List.getElem?_set_ne (by have := h1'.pjg; omega)]) (by omega) hb (S1.mono fun c hc hn => fk c hc (fun e => hn (.inr (by have := h.pjg; omega))) (fun e => hn (.inr (h.gk_ c e).1)))
  exact ⟨e', H5, _, _, cv', _, _, _, k1, T5, k2, k3, k4, k5, k6, k7, k8⟩

theorem kids_end {e : Env} {H : Heap} {z : Int} {i d : Nat} (h1 : e 1 = .int .i64 d) (h6 : e 6 = .int .i64 z) (h9 : e 9 = .int .i64 i) (hi : ¬ ((i : Int) < kidsZ z ∧ d < 6)) : ∃ e', dCode Tryd.prog hookD c11.l0 e H = some (.exit 1, e', H) ∧ e' 0 = e 0 ∧ e' 8 = e 8 ∧ e' 4 = e 4 := by
  simp only [kidsZ] at hi
  by_cases hk : (i : Int) < ibits .and .i64 (z.fdiv 8) 3
  · have hd : ¬ (d : Int) < 6 := by omega
    simp [c11.l0, h1, h6, h9, hk, hd]
  · simp [c11.l0, h1, h6, h9, hk]

def withKeys (kind : Int) (ks l : List ByteArray) : List ByteArray := if kind = 7 then ks ++ l else ks

theorem loop11 {n d : Nat} (ih : TreeOK n (d + 1)) (hd : d < 6) {R : Nat → Prop} {H0 : Heap} {z : Int} {pj : Nat} {tcv : CV} {kind : Int} (hk67 : kind = 6 ∨ kind = 7) : ∀ (m i : Nat) (e : Env) (H : Heap) (lcv kcv cvl : CV) (xs : List (List CV)) (gl gk : Option Nat) (js : List J) (ks : List ByteArray) (rest : List Int),
    (i : Int) + m = kidsZ z → js.length = i → ks.length ≤ i → TS R H0 (n + 1) kind pj lcv kcv tcv cvl xs gl gk js ks rest H → e 0 = cvl → e 1 = .int .i64 d → e 6 = .int .i64 z → e 7 = tcv → e 8 = .ptr pj 0 → e 9 = .int .i64 i →
    ∃ e' H' lcv' kcv' cvl' xs' gl' gk', dCode Tryd.prog hookD (.loop c11.l0) e H = some (.exit 1, e', H') ∧
      TS R H0 (n + 1) kind pj lcv' kcv' tcv cvl' xs' gl' gk' (js ++ (kidsF (treeF n) (keyAt z) m i rest).1) (withKeys kind ks (kidsF (treeF n) (keyAt z) m i rest).2.1) (kidsF (treeF n) (keyAt z) m i rest).2.2 H' ∧ e' 0 = cvl' ∧ e' 8 = .ptr pj 0 ∧ e' 4 = e 4 := by
  intro m
  have hkz := kidsZ_le z
  induction m with
  | zero =>
    intro i e H lcv kcv cvl xs gl gk js ks rest hi hjl hkl h h0 h1 h6 h7 h8 h9
    obtain ⟨e', k, k0, k8, k4⟩ := kids_end (H := H) h1 h6 h9 (by omega)
    refine ⟨e', H, lcv, kcv, cvl, xs, gl, gk, by rw [loop_step, k, next_exit], ?_, by rw [k0, h0], by rw [k8, h8], k4⟩
    simpa [kidsF, withKeys] using h
  | succ m ihm =>
    intro i e H lcv kcv cvl xs gl gk js ks rest hi hjl hkl h h0 h1 h6 h7 h8 h9
    rcases hk67 with rfl | rfl
    · obtain ⟨e1, H1, lcv1, cvl1, xs1, gl1, k, T1, a0, a1, a6, a7, a8, a9, a4⟩ := round11_list ih hd h h0 h1 h6 h7 h8 h9 (by omega) (by omega)
      obtain ⟨e2, H2, lcv2, kcv2, cvl2, xs2, gl2, gk2, k2, T2, b0, b8, b4⟩ := ihm (i + 1) e1 H1 _ _ _ _ _ _ _ _ _ (by omega) (by simp [hjl]) (by omega) T1 a0 a1 a6 a7 a8 a9
      refine ⟨e2, H2, lcv2, kcv2, cvl2, xs2, gl2, gk2, by rw [loop_step, k, next_normal, k2], ?_, b0, b8, by rw [b4, a4]⟩
      simpa [kidsF, withKeys] using T2
    · obtain ⟨e1, H1, lcv1, kcv1, cvl1, xs1, gl1, gk1, k, T1, a0, a1, a6, a7, a8, a9, a4⟩ := round11_map ih hd h h0 h1 h6 h7 h8 h9 (by omega) (by omega) (by omega)
      obtain ⟨e2, H2, lcv2, kcv2, cvl2, xs2, gl2, gk2, k2, T2, b0, b8, b4⟩ := ihm (i + 1) e1 H1 _ _ _ _ _ _ _ _ _ (by omega) (by simp [hjl]) (by simp; omega) T1 a0 a1 a6 a7 a8 a9
      refine ⟨e2, H2, lcv2, kcv2, cvl2, xs2, gl2, gk2, by rw [loop_step, k, next_normal, k2], ?_, b0, b8, by rw [b4, a4]⟩
      simpa [kidsF, withKeys] using T2

def zJ : Blk := { cells := [.int .i64 0, .int .i64 0, .str (bs []), .nils, .nils, .int .i64 0], st := .live, ty := some 28 }
def txB : Blk := { cells := texts.map CV.str, st := .live }


theorem plain11 {e : Env} {H0 : Heap} {b o l c : Nat} {ex : Bool} {z : Int} {d : Nat} (h0 : e 0 = .slc b o l c 1 ex) (h1 : e 1 = .int .i64 d) (h4 : e 4 = .ptr H0.length 0) (h6 : e 6 = .int .i64 z) (h7 : e 7 = .slc (H0.length + 1) 0 9 9 1 true) (h8 : e 8 = .ptr (H0.length + 2) 0) (hd : d ≤ 6)
    (hk : ¬ (kindZ z = 6 ∨ kindZ z = 7) ∨ d = 6) :
    let cs : List CV := [.int .i64 (kindZ z), .int .i64 (if kindZ z = 4 then numZ z else 0), .str (if kindZ z = 5 then (texts[(textZ z).toNat]?).getD (bs []) else bs []), .nils, .nils, .int .i64 0]
    fin c11.res (dCode Tryd.prog hookD c11.s0 e (H0 ++ [zJ, txB, { cells := [.int .i64 (kindZ z), .int .i64 0, .str (bs []), .nils, .nils, .int .i64 0], st := .live, ty := some 28 }])) =
      some (.tup [.agg cs, .slc b o l c 1 ex], H0 ++ [{ cells := cs, st := .live, ty := some 28 }, txB, { cells := cs, st := .live, ty := some 28 }]) := by
  obtain ⟨q, hq, hq9⟩ := textZ_lt z
  obtain ⟨t, ht, hs, hg⟩ := texts_at hq9
  have htq : (textZ z).toNat = q := by omega
  simp only [htq, hg]
  have hkz := kidsZ_le z
  by_cases k4 : kindZ z = 4
  · simp only [numZ]
    simp [c11.s0, c11, h0, h4, h6, h8, k4, zJ]
  · by_cases k5 : kindZ z = 5
    · have hld : ((texts.map CV.str).drop q).take 1 = [.str t] := by
        have hlt : q < (texts.map CV.str).length := by simpa [texts] using hq9
        rw [List.drop_eq_getElem_cons hlt]
        have : (texts.map CV.str)[q]'hlt = .str t := by
          have h2 : (texts.map CV.str)[q]? = some (.str t) := by simp [ht]
          rw [List.getElem?_eq_getElem hlt] at h2
          simpa using h2
        rw [this]; rfl
      have hl9 : texts.length = 9 := rfl
      simp only [textZ] at hq
      have hq9I : (q : Int) < 9 := by omega
      have hq9' : q + 1 ≤ 9 := by omega
      simp [c11.s0, c11, h0, h4, h6, h7, h8, k5, zJ, hq, txB, hl9, hq9I, hq9', hld]
    · by_cases k67 : kindZ z = 6 ∨ kindZ z = 7
      · have hd6 : d = 6 := by rcases hk with hk | hk; exact absurd k67 hk; exact hk
        obtain ⟨F, hF⟩ := choose_fn (p := fun (q : Env × Heap) (e' : Env) => q.1 1 = .int .i64 d → q.1 6 = .int .i64 z → q.1 9 = .int .i64 (0 : Int) → dCode Tryd.prog hookD (.loop c11.l0) q.1 q.2 = some (.exit 1, e', q.2) ∧ e' 0 = q.1 0 ∧ e' 8 = q.1 8 ∧ e' 4 = q.1 4) fun q => by
          by_cases hq : q.1 1 = .int .i64 d ∧ q.1 6 = .int .i64 z ∧ q.1 9 = .int .i64 (0 : Int)
          · obtain ⟨e', k, a⟩ := kids_end (i := 0) (H := q.2) hq.1 hq.2.1 hq.2.2 (by omega)
            exact ⟨e', fun _ _ _ => ⟨by rw [loop_step, k, next_exit], a⟩⟩
          · exact ⟨q.1, fun a b c => absurd ⟨a, b, c⟩ hq⟩
        have f1 := fun e2 H (a : e2 1 = .int .i64 d) (b : e2 6 = .int .i64 z) (c : e2 9 = .int .i64 (0 : Int)) => (hF (e2, H) a b c).1
        have f2 := fun e2 H (a : e2 1 = .int .i64 d) (b : e2 6 = .int .i64 z) (c : e2 9 = .int .i64 (0 : Int)) => (hF (e2, H) a b c).2.1
        have f3 := fun e2 H (a : e2 1 = .int .i64 d) (b : e2 6 = .int .i64 z) (c : e2 9 = .int .i64 (0 : Int)) => (hF (e2, H) a b c).2.2.1
        have f4 := fun e2 H (a : e2 1 = .int .i64 d) (b : e2 6 = .int .i64 z) (c : e2 9 = .int .i64 (0 : Int)) => (hF (e2, H) a b c).2.2.2
        simp only at f1 f2 f3 f4
        rcases k67 with k6 | k6 <;> simp [c11.s0, c11, h0, h1, h4, h6, h8, k6, zJ, f1, f2, f3, f4]
      · have k6 : ¬ kindZ z = 6 := fun h => k67 (.inl h)
        have k7 : ¬ kindZ z = 7 := fun h => k67 (.inr h)
        simp [c11.s0, c11, h0, h4, h6, h8, k4, k5, k6, k7, zJ]

theorem deep11 {n d : Nat} (ih : TreeOK n (d + 1)) (hd : d < 6) {S : Nat → Prop} {e : Env} {H0 : Heap} {b o l c : Nat} {ex : Bool} {z : Int} {rest : List Int} (h0 : e 0 = .slc b o l c 1 ex) (h1 : e 1 = .int .i64 d) (h4 : e 4 = .ptr H0.length 0) (h6 : e 6 = .int .i64 z) (h7 : e 7 = .slc (H0.length + 1) 0 9 9 1 true) (h8 : e 8 = .ptr (H0.length + 2) 0)
    (hk : kindZ z = 6 ∨ kindZ z = 7) (hS : Sl S H0 1 (.slc b o l c 1 ex) (ints rest)) :
    ∃ H' cs cv', fin c11.res (dCode Tryd.prog hookD c11.s0 e (H0 ++ [zJ, txB, { cells := [.int .i64 (kindZ z), .int .i64 0, .str (bs []), .nils, .nils, .int .i64 0], st := .live, ty := some 28 }])) = some (.tup [.agg cs, cv'], H') ∧
      Fr (fun _ => False) H0 H' ∧ RJ (n + 2) (fun c => c < H0.length) H' (treeF (n + 1) (z :: rest)).1 cs ∧ Sl S H' 1 cv' (ints (treeF (n + 1) (z :: rest)).2) := by
  have hkz := kidsZ_le z
  let J0 : Blk := { cells := [.int .i64 (kindZ z), .int .i64 0, .str (bs []), .nils, .nils, .int .i64 0], st := .live, ty := some 28 }
  let H : Heap := H0 ++ [zJ, txB, J0]
  have T0 : TS (fun c => S c ∨ c = H0.length) (H0 ++ [zJ]) (n + 1) (kindZ z) (H0.length + 2) .nils .nils (.slc (H0.length + 1) 0 9 9 1 true) (.slc b o l c 1 ex) [] none none [] [] rest H := by
    refine ⟨by simp [H], fun c hc => ?_, by simp, by simp [H, J0], Ow.nil, Ow.nil, by simp, by simp, rfl, by simp, ?_, ?_⟩
    · have : H = (H0 ++ [zJ]) ++ [txB, J0] := by simp [H]
      rw [this, List.getElem?_append_left hc]
    · refine .inr ⟨H0.length + 1, 0, 9, true, txB, rfl, by simp [H], ?_, .inl rfl, by simp [txB, strs, texts], by simp [txB, strs, texts], by simp [strs]⟩
      rintro (hb | hb | hb | hb)
      · simp at hb
      · omega
      · simp at hb
      · simp at hb
    · refine hS.move (fun c hc _ => List.getElem?_append_left hc) fun c hc hb => ?_
      rcases hb with (hb | hb) | hb
      · exact hb
      · omega
      · simp at hb; omega
  obtain ⟨E, hE0, hE1, hE4, hE6, hE7, hE8, hE9, hrun⟩ : ∃ E : Env, E 0 = e 0 ∧ E 1 = e 1 ∧ E 4 = e 4 ∧ E 6 = e 6 ∧ E 7 = e 7 ∧ E 8 = e 8 ∧ E 9 = .int .i64 (0 : Nat) ∧
      ∀ e' H' lcv kcv cv', dCode Tryd.prog hookD (.loop c11.l0) E H = some (.exit 1, e', H') → e' 0 = cv' → (cv' = .nils ∨ ∃ b o l c ex, cv' = .slc b o l c 1 ex) → e' 4 = .ptr H0.length 0 → e' 8 = .ptr (H0.length + 2) 0 →
        H'[H0.length]? = some zJ → H'[H0.length + 2]? = some { cells := [.int .i64 (kindZ z), .int .i64 0, .str (bs []), lcv, kcv, .int .i64 0], st := .live, ty := some 28 } →
        fin c11.res (dCode Tryd.prog hookD c11.s0 e H) = some (.tup [.agg [.int .i64 (kindZ z), .int .i64 0, .str (bs []), lcv, kcv, .int .i64 0], cv'], H'.set H0.length { cells := [.int .i64 (kindZ z), .int .i64 0, .str (bs []), lcv, kcv, .int .i64 0], st := .live, ty := some 28 }) := by
    rcases hk with hk | hk
    · refine ⟨(((((((((e.put (some 27) (.ptr (H0.length + 2) 0)).put (some 28) (.int .i64 6)).put (some 30) (.bool false)).put (some 29) (.bool false)).put (some 41) (.bool false)).put (some 40) (.bool false)).put (some 53) (.bool true)).put (some 52) (.bool true)).put (some 9) (.int .i64 0)), by simp, by simp, by simp, by simp, by simp, by simp, by simp, ?_⟩
      intro e' H' lcv kcv cv' hd h0' hok h4' h8' hz hj
      have hlt := lt_of_get hz
      simp only [H, J0, hk] at hd hj ⊢
      simp only [zJ] at hd hz ⊢
      have hss : ∀ x, (H'.set H0.length x)[H0.length]? = some x := fun x => List.getElem?_set_self hlt
      clear hlt
      rcases hok with rfl | ⟨b', o', l', c', ex', rfl⟩ <;> simp [c11.s0, c11, h4, h6, h8, hk, hd, h0', h4', h8', hz, hj, hss]
    · refine ⟨((((((((((e.put (some 27) (.ptr (H0.length + 2) 0)).put (some 28) (.int .i64 7)).put (some 30) (.bool false)).put (some 29) (.bool false)).put (some 41) (.bool false)).put (some 40) (.bool false)).put (some 53) (.bool false)).put (some 52) (.bool false)).put (some 54) (.bool true)).put (some 52) (.bool true)).put (some 9) (.int .i64 0), by simp, by simp, by simp, by simp, by simp, by simp, by simp, ?_⟩
      intro e' H' lcv kcv cv' hd h0' hok h4' h8' hz hj
      have hlt := lt_of_get hz
      simp only [H, J0, hk] at hd hj ⊢
      simp only [zJ] at hd hz ⊢
      have hss : ∀ x, (H'.set H0.length x)[H0.length]? = some x := fun x => List.getElem?_set_self hlt
      clear hlt
      rcases hok with rfl | ⟨b', o', l', c', ex', rfl⟩ <;> simp [c11.s0, c11, h4, h6, h8, hk, hd, h0', h4', h8', hz, hj, hss]
  obtain ⟨e', H', lcv', kcv', cvl', xs', gl', gk', k, T, k0, k8, k4⟩ := loop11 (z := z) ih hd hk (kidsZ z).toNat 0 E H .nils .nils _ [] none none [] [] rest (by omega) rfl (by simp) T0 (by rw [hE0, h0]) (by rw [hE1, h1]) (by rw [hE6, h6]) (by rw [hE7, h7]) (by rw [hE8, h8]) hE9
  have hz' : H'[H0.length]? = some zJ := by
    rw [T.pre _ (by simp)]
    simp
  have hlt := lt_of_get hz'
  have hok : cvl' = .nils ∨ ∃ b o l c ex, cvl' = .slc b o l c 1 ex := by
    rcases T.rs with ⟨h, _⟩ | ⟨b', o', c', ex', _, h, _⟩
    · exact .inl h
    · exact .inr ⟨_, _, _, _, _, h⟩
  have hfin := hrun e' H' lcv' kcv' cvl' k k0 hok (by rw [k4, hE4, h4]) k8 hz' T.hj
  let C : Blk := { cells := [.int .i64 (kindZ z), .int .i64 0, .str (bs []), lcv', kcv', .int .i64 0], st := .live, ty := some 28 }
  have hset : ∀ c, c ≠ H0.length → (H'.set H0.length C)[c]? = H'[c]? := fun c hc => List.getElem?_set_ne (Ne.symm hc)
  have hB0 : (H0 ++ [zJ]).length = H0.length + 1 := by simp
  have tree : treeF (n + 1) (z :: rest) = (.mk (kindZ z) 0 (bs []) (kidsF (treeF n) (keyAt z) (kidsZ z).toNat 0 rest).1 (if kindZ z = 7 then (kidsF (treeF n) (keyAt z) (kidsZ z).toNat 0 rest).2.1 else []) 0, (kidsF (treeF n) (keyAt z) (kidsZ z).toNat 0 rest).2.2) := by
    rw [treeF, if_pos hk]
  refine ⟨_, _, cvl', hfin, ⟨?_, fun c hc _ => ?_⟩, ?_, ?_⟩
  · have := T.len
    simp at this ⊢
    omega
  · rw [hset c (by omega), T.pre c (by rw [hB0]; omega), List.getElem?_append_left hc]
  · rw [tree]
    have f1 : ∀ c, c < H'.length → ¬ Bad (H0 ++ [zJ]).length (H0.length + 2) gl' gk' c → (H'.set H0.length C)[c]? = H'[c]? := fun c _ hb => hset c (fun e => hb (.inl (by rw [hB0]; omega)))
    have f2 : ∀ c, c < H'.length → c < H0.length → Bad (H0 ++ [zJ]).length (H0.length + 2) gl' gk' c := fun c _ hc => .inl (by rw [hB0]; omega)
    have OL : Ow (H'.set H0.length C) 28 6 lcv' xs' gl' := T.ol.mono fun c hc => hset c (by have := (T.gl_ c hc).1; rw [hB0] at this; omega)
    have OK : Ow (H'.set H0.length C) 9 1 kcv' (strs (withKeys (kindZ z) [] (kidsF (treeF n) (keyAt z) (kidsZ z).toNat 0 rest).2.1)) gk' := T.ok.mono fun c hc => hset c (by have := (T.gk_ c hc).1; rw [hB0] at this; omega)
    refine ⟨lcv', kcv', xs', rfl, OL.sl fun c hc => ?_, T.xl, fun i x y hx hy => (T.xr i x y hx hy).move f1 f2, ?_⟩
    · have := (T.gl_ c hc).1
      rw [hB0] at this
      omega
    · have := OK.sl (S := fun c => c < H0.length) fun c hc => by have := (T.gk_ c hc).1; rw [hB0] at this; omega
      simpa [withKeys, J.keys] using this
  · rw [tree]
    exact T.rs.move (fun c _ hn => hset c (fun e => hn (.inl (.inr e)))) fun c _ hc => .inl (.inl hc)

theorem pre11 {S : Nat → Prop} {H : Heap} {cv : CV} {z : Int} {rest : List Int} {d : Nat} (hS : Sl S H 1 cv (ints (z :: rest))) :
    ∃ (E : Env) (b o l c : Nat) (ex : Bool), (∀ r, fin c11.res (dCode Tryd.prog hookD c11.s0 E (H ++ [zJ, txB, { cells := [.int .i64 (kindZ z), .int .i64 0, .str (bs []), .nils, .nils, .int .i64 0], st := .live, ty := some 28 }])) = r →
        den Tryd.prog hookD 11 [cv, .int .i64 d] H = r) ∧ Sl S H 1 (.slc b o l c 1 ex) (ints rest) ∧
      E 0 = .slc b o l c 1 ex ∧ E 1 = .int .i64 d ∧ E 4 = .ptr H.length 0 ∧ E 6 = .int .i64 z ∧ E 7 = .slc (H.length + 1) 0 9 9 1 true ∧ E 8 = .ptr (H.length + 2) 0 := by
  rw [ints_cons] at hS
  obtain ⟨b0, o0, ha, hl, hlt, _⟩ := hS.at (i := 0) (x := [.int .i64 z]) rfl
  have hl' : ∀ l, ldB (H ++ l)[b0]? o0 1 = some [.int .i64 z] := fun l => by rw [← ld_eq]; exact ld_app hl
  have hlen := fun h => hS.len (h := h)
  have ha : ∀ (h : Heap) ik, iaddrOf h 1 cv (.int ik 0) = some (.ptr b0 o0, h) := ha
  rcases hS with ⟨_, h2⟩ | ⟨b, off, cap, ex, blk, h1, h2⟩
  · simp at h2
  · have hS2 : Sl S H 1 cv ([.int .i64 z] :: ints rest) := .inr ⟨b, off, cap, ex, blk, h1, h2⟩
    rw [h1] at hS2
    obtain ⟨_, ht⟩ := Sl.tail hS2
    subst h1
    have e1 : b = b0 ∧ off = o0 := by
      have := ha [] .i64
      simpa [iaddrOf] using this
    obtain ⟨rfl, rfl⟩ := e1
    refine ⟨?E, b, off + 1, (ints rest).length, cap - 1, ex, fun r hr => ?run, ht, ?_, ?_, ?_, ?_, ?_, ?_⟩
    case run =>
      rw [den_of (hdN (by decide) _ _) k11 (by simp [c11])]
      have hn1 : ¬ (((ints rest).length : Int) + 1 = 0) := by omega
      have hn2 : (0 : Int) < ((ints rest).length : Int) + 1 := by omega
      have hn3 : (1 : Int) ≤ ((ints rest).length : Int) + 1 := by omega
      simp [c11, c11.body, hl', exec, boundO, bound, hn1, hn2, hn3]
      exact hr
    all_goals simp

theorem nil11 {S : Nat → Prop} {H : Heap} {cv : CV} {d : Nat} (hS : Sl S H 1 cv (ints [])) :
    den Tryd.prog hookD 11 [cv, .int .i64 d] H = some (.tup [.agg [.int .i64 1, .int .i64 0, .str (bs []), .nils, .nils, .int .i64 0], .nils], H ++ [{ cells := [.int .i64 1, .int .i64 0, .str (bs []), .nils, .nils, .int .i64 0], st := .live, ty := some 28 }]) := by
  have hlen := fun h => hS.len (h := h)
  have h0 : (((ints []).length : Nat) : Int) = 0 := rfl
  simp only [h0] at hlen
  rw [den_of (hdN (by decide) _ _) k11 (by simp [c11])]
  simp [c11, c11.body, hlen]

theorem rj_leaf {m : Nat} {S : Nat → Prop} {H : Heap} {k n : Int} {t : ByteArray} : RJ (m + 1) S H (.mk k n t [] [] 0) [.int .i64 k, .int .i64 n, .str t, .nils, .nils, .int .i64 0] :=
  ⟨.nils, .nils, [], rfl, Sl.nil, rfl, by simp, by simpa [strs, J.keys] using (Sl.nil (S := S) (H := H) (k := 1))⟩

theorem tree_leaf {n : Nat} {z : Int} {rest : List Int} (h : ¬ (kindZ z = 6 ∨ kindZ z = 7) ∨ n = 0) : treeF n (z :: rest) = (.mk (kindZ z) (if kindZ z = 4 then numZ z else 0) (if kindZ z = 5 then (texts[(textZ z).toNat]?).getD (bs []) else bs []) [] [] 0, rest) := by
  cases n with
  | zero => rfl
  | succ n =>
    rcases h with h | h
    · rw [treeF, if_neg h]
    · omega

theorem tree_ok : ∀ n d, d + n = 6 → TreeOK n d := by
  intro n
  induction n with
  | zero =>
    intro d hd S H cv l hS
    cases l with
    | nil => exact ⟨_, _, _, nil11 hS, Fr.push _, rj_leaf, Sl.nil⟩
    | cons z rest =>
      obtain ⟨E, b, o, l, c, ex, hr, ht, h0, h1, h4, h6, h7, h8⟩ := pre11 (d := d) hS
      refine ⟨_, _, _, hr _ (plain11 h0 h1 h4 h6 h7 h8 (by omega) (.inr (by omega))), Fr.push _, ?_, ?_⟩
      · rw [tree_leaf (.inr rfl)]; exact rj_leaf
      · rw [tree_leaf (.inr rfl)]; exact ht.app
  | succ n ihn =>
    intro d hd S H cv l hS
    have ih := ihn (d + 1) (by omega)
    cases l with
    | nil => exact ⟨_, _, _, nil11 hS, Fr.push _, rj_leaf, Sl.nil⟩
    | cons z rest =>
      obtain ⟨E, b, o, l, c, ex, hr, ht, h0, h1, h4, h6, h7, h8⟩ := pre11 (d := d) hS
      by_cases hk : kindZ z = 6 ∨ kindZ z = 7
      · obtain ⟨H', cs, cv', g1, g2, g3, g4⟩ := deep11 ih (by omega) h0 h1 h4 h6 h7 h8 hk ht
        exact ⟨H', cs, cv', hr _ g1, g2, g3, g4⟩
      · refine ⟨_, _, _, hr _ (plain11 h0 h1 h4 h6 h7 h8 (by omega) (.inl hk)), Fr.push _, ?_, ?_⟩
        · rw [tree_leaf (.inl hk)]; exact rj_leaf
        · rw [tree_leaf (.inl hk)]; exact ht.app

/-- the tree of a slice of numbers -/
theorem tree_run {S : Nat → Prop} {H : Heap} {cv : CV} {l : List Int} (hS : Sl S H 1 cv (ints l)) :
    ∃ H' cs cv', den Tryd.prog hookD 11 [cv, .int .i64 0] H = some (.tup [.agg cs, cv'], H') ∧ Fr (fun _ => False) H H' ∧ RJ 7 (fun c => c < H.length) H' (treeF 6 l).1 cs := by
  obtain ⟨H', cs, cv', h1, h2, h3, _⟩ := tree_ok 6 0 rfl S H cv l hS
  exact ⟨H', cs, cv', h1, h2, h3⟩

end Go.Cn.D
