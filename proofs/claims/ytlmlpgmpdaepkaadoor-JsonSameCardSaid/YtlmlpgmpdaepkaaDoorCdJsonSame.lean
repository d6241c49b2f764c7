/- glebelaw11.JsonSame in the canonical run. -/
import Derived.Test.YtlmlpgmpdaepkaaDoorCdSameLaw
import Derived.Test.YtlmlpgmpdaepkaaDoorCnLayer
set_option linter.unusedSimpArgs false
set_option linter.unusedVariables false
set_option linter.unusedSectionVars false
namespace Go.Cn.D
open Go.Proofs
set_option maxRecDepth 100000

def jcells (a : J) (la ka : CV) : List CV := [.int .i64 a.kind, .int .i64 a.num, .str a.text, la, ka, .int .i64 a.pos]

/-- the map that is turned round: i entries are left -/
structure LS (H0 : Heap) (p9 : Nat) (a : J) (xa : List (List CV)) (i : Nat) (lcv kcv : CV) (gl gk : Option Nat) (H : Heap) : Prop where
  len : H0.length ≤ H.length
  pre : ∀ c, c < H0.length → c ≠ p9 → H[c]? = H0[c]?
  h9 : H[p9]? = some { cells := jcells a lcv kcv, st := .live, ty := some 28 }
  ol : Ow H 28 6 lcv (xa.drop i).reverse gl
  ok : Ow H 9 1 kcv (strs (a.keys.drop i).reverse) gk
  gl_ : ∀ c, gl = some c → H0.length ≤ c
  gk_ : ∀ c, gk = some c → H0.length ≤ c ∧ gl ≠ some c

theorem drop_rev {α : Type} {l : List α} {i : Nat} {x : α} (h : l[i]? = some x) : (l.drop i).reverse = (l.drop (i + 1)).reverse ++ [x] := by
  obtain ⟨hi, rfl⟩ := List.getElem?_eq_some_iff.1 h
  rw [List.drop_eq_getElem_cons hi, List.reverse_cons]

theorem round7 {hk : Hook} {H0 : Heap} {p5 p9 : Nat} {a : J} {la ka lcv kcv : CV} {xa : List (List CV)} {gl gk : Option Nat} {i : Nat} {H : Heap} {e : Env} (h : LS H0 p9 a xa (i + 1) lcv kcv gl gk H) (hp9 : p9 < H0.length) (h5 : H0[p5]? = some { cells := jcells a la ka, st := .live, ty := some 28 }) (h59 : p5 ≠ p9)
    (sla : Sl (fun c => c = p9) H0 6 la xa) (ska : Sl (fun c => c = p9) H0 1 ka (strs a.keys)) (hx : i < xa.length) (hxa : xa.length ≤ 1000000) (hik : i < a.keys.length) (hka : a.keys.length ≤ 1000000)
    (e5 : e 5 = .ptr p5 0) (e9 : e 9 = .ptr p9 0) (e10 : e 10 = .int .i64 (i : Int)) :
    ∃ e' H' lcv' kcv' gl' gk', dCode Tryd.prog hk c7.l0 e H = some (.normal, e', H') ∧ LS H0 p9 a xa i lcv' kcv' gl' gk' H' ∧ e' 5 = .ptr p5 0 ∧ e' 9 = .ptr p9 0 ∧ e' 10 = .int .i64 ((i : Int) - 1) ∧ e' 7 = e 7 := by
  obtain ⟨k, hkk⟩ : ∃ k, a.keys[i]? = some k := ⟨_, List.getElem?_eq_getElem hik⟩
  obtain ⟨c, hc⟩ : ∃ c, xa[i]? = some c := ⟨_, List.getElem?_eq_getElem hx⟩
  obtain ⟨b1, o1, ha1, hl1, hb1, hn1⟩ := ska.at (strs_at hkk)
  obtain ⟨b2, o2, ha2, hl2, hb2, hn2⟩ := sla.at hc
  have hcl := sla.elems c (List.mem_of_getElem? hc)
  have hct : c.take 6 = c := List.take_of_length_le (Nat.le_of_eq hcl)
  have hl := h.len
  have hp5 := lt_of_get h5
  have q5 : H[p5]? = some { cells := jcells a la ka, st := .live, ty := some 28 } := by rw [h.pre p5 hp5 h59]; exact h5
  have hl1' : H.ld b1 o1 1 = some [.str k] := ld_same hl1 (h.pre b1 hb1 hn1)
  have hl2' : H.ld b2 o2 6 = some c := ld_same hl2 (h.pre b2 hb2 hn2)
  -- the key
  have hs : (H ++ [({ cells := [.str k], st := .live } : Blk)]).ld H.length 0 1 = some [.str k] := by
    rw [ld_of (blk := { cells := [.str k], st := .live }) (by simp) (.inl rfl) (by simp)]; rfl
  obtain ⟨H4, hA4, O4, l4, F4⟩ := (h.ok.app (G := [{ cells := [.str k], st := .live }])).one (bytes := 16) (cap := 1) (ex := true) hs (by simp [strs]; unfold capB; omega)
  have hl3 : (H ++ [({ cells := [.str k], st := .live } : Blk)]).length = H.length + 1 := by simp
  rw [hl3] at hA4 l4 O4
  have old4 : ∀ b, b < H.length → gk ≠ some b → H4[b]? = H[b]? := fun b hb hg => by
    rw [F4.2 b (by rw [hl3]; omega) hg, List.getElem?_append_left hb]
  have p5k : gk ≠ some p5 := fun e => by have := (h.gk_ _ e).1; omega
  have p9k : gk ≠ some p9 := fun e => by have := (h.gk_ _ e).1; omega
  have p9l : gl ≠ some p9 := fun e => by have := h.gl_ _ e; omega
  have b2k : gk ≠ some b2 := fun e => by have := (h.gk_ _ e).1; omega
  have b2l : gl ≠ some b2 := fun e => by have := h.gl_ _ e; omega
  have m5 : H4[p5]? = some { cells := jcells a la ka, st := .live, ty := some 28 } := by rw [old4 p5 (by omega) p5k]; exact q5
  have m9 : H4[p9]? = some { cells := jcells a lcv kcv, st := .live, ty := some 28 } := by rw [old4 p9 (by omega) p9k]; exact h.h9
  have m2 : ldB H4[b2]? o2 6 = some c := by rw [old4 b2 (by omega) b2k, ← ld_eq]; exact hl2'
  -- the list
  have hs6 : (H4 ++ [({ cells := c, st := .live } : Blk)]).ld H4.length 0 6 = some c := by
    rw [ld_of (blk := { cells := c, st := .live }) (by simp) (.inl rfl) (by simp [hcl])]
    simp only [List.drop_zero]
    rw [hct]
  have OL4 : Ow H4 28 6 lcv (xa.drop (i + 1)).reverse gl := h.ol.mono fun c hc => old4 c (h.ol.lt hc) fun e => (h.gk_ _ e).2 hc
  obtain ⟨H6, hA6, O6, l6, F6⟩ := (OL4.app (G := [{ cells := c, st := .live }])).one (bytes := 88) (cap := 1) (ex := true) hs6 (by simp; unfold capB; omega)
  have hl5 : (H4 ++ [({ cells := c, st := .live } : Blk)]).length = H4.length + 1 := by simp
  rw [hl5] at hA6 l6 O6
  have old6 : ∀ b, b < H4.length → gl ≠ some b → H6[b]? = H4[b]? := fun b hb hg => by
    rw [F6.2 b (by rw [hl5]; omega) hg, List.getElem?_append_left hb]
  have n9 : H6[p9]? = some { cells := jcells a lcv kcv, st := .live, ty := some 28 } := by rw [old6 p9 (by omega) p9l]; exact m9
  have hlt9 := lt_of_get n9
  have hw : IntKind.i64.wrap ((i : Int) - 1) = (i : Int) - 1 := by rw [IntKind.wrap_i64]; omega
  have a9 := h.ok.apart p9k
  have a5 := h.ok.apart p5k
  have ab := h.ok.apart b2k
  have hi0 : (0 : Int) ≤ i := by omega
  have hlb1 := hl1'
  rw [ld_eq] at hlb1
  have ne9 : (H.length == p9) = false := by simp; omega
  have ne5 : (H.length == p5) = false := by simp; omega
  have neb : (H.length == b2) = false := by simp; omega
  let kcv' : CV := .slc (H.length + 1) 0 ((strs (a.keys.drop (i + 1)).reverse).length + 1) ((strs (a.keys.drop (i + 1)).reverse).length + 1) 1 false
  let lcv' : CV := .slc (H4.length + 1) 0 ((xa.drop (i + 1)).reverse.length + 1) ((xa.drop (i + 1)).reverse.length + 1) 6 false
  let H8 : Heap := H6.set p9 { cells := jcells a lcv' kcv', st := .live, ty := some 28 }
  have key : ∃ e', dCode Tryd.prog hk c7.l0 e H = some (.normal, e', H8) ∧ e' 5 = .ptr p5 0 ∧ e' 9 = .ptr p9 0 ∧ e' 10 = .int .i64 ((i : Int) - 1) ∧ e' 7 = e 7 := by
    have q9 := h.h9
    simp only [jcells] at q5 q9 m5 m9 n9
    have t9 : ∀ x, (H6.set p9 x)[p9]? = some x := fun x => List.getElem?_set_self hlt9
    simp [c7.l0, e5, e9, e10, q5, q9, ha1, hlb1, hA4, m5, m9, a9, a5, ab, ne9, ne5, neb, ha2, m2, hcl, hct, hA6, n9, t9, hw, H8, jcells, kcv', lcv']
  obtain ⟨e', k1, k2, k3, k4, k5⟩ := key
  have keep : ∀ b, b < H.length → b ≠ p9 → gk ≠ some b → gl ≠ some b → H8[b]? = H[b]? := fun b hb h9 hg hg' => by
    simp only [H8]
    rw [List.getElem?_set_ne (Ne.symm h9), old6 b (by omega) hg', old4 b hb hg]
  refine ⟨e', H8, lcv', kcv', some (H4.length + 1), some (H.length + 1), k1, ⟨by simp [H8, l6]; omega, fun b hb hn => ?_, ?_, ?_, ?_, fun b hb => ?_, fun b hb => ?_⟩, k2, k3, k4, k5⟩
  · rw [keep b (by omega) hn (fun e => by have := (h.gk_ _ e).1; omega) (fun e => by have := h.gl_ _ e; omega)]
    exact h.pre b hb hn
  · simp only [H8]
    rw [List.getElem?_set_self hlt9]
  · rw [drop_rev hc]
    refine O6.mono fun b hb => ?_
    simp at hb
    simp only [H8]
    rw [List.getElem?_set_ne (by omega)]
  · rw [drop_rev hkk]
    have e1 : strs ((a.keys.drop (i + 1)).reverse ++ [k]) = strs (a.keys.drop (i + 1)).reverse ++ [[.str k]] := by simp [strs]
    rw [e1]
    refine O4.mono fun b hb => ?_
    simp at hb
    subst hb
    simp only [H8]
    rw [List.getElem?_set_ne (by omega), old6 _ (by omega) (fun e => by have := h.ol.lt e; omega)]
  · simp at hb
    omega
  · simp at hb
    subst hb
    exact ⟨by omega, by simp; omega⟩

theorem end7 {hk : Hook} {H : Heap} {e : Env} (e10 : e 10 = .int .i64 (-1)) : ∃ e', dCode Tryd.prog hk c7.l0 e H = some (.exit 0, e', H) ∧ e' 5 = e 5 ∧ e' 9 = e 9 ∧ e' 7 = e 7 := by
  simp [c7.l0, e10]

theorem loop7 {hk : Hook} {H0 : Heap} {p5 p9 : Nat} {a : J} {la ka : CV} {xa : List (List CV)} (hp9 : p9 < H0.length) (h5 : H0[p5]? = some { cells := jcells a la ka, st := .live, ty := some 28 }) (h59 : p5 ≠ p9)
    (sla : Sl (fun c => c = p9) H0 6 la xa) (ska : Sl (fun c => c = p9) H0 1 ka (strs a.keys)) (hxa : xa.length ≤ 1000000) (hka : a.keys.length ≤ 1000000) (hxk : xa.length = a.keys.length) :
    ∀ (i : Nat) (e : Env) (H : Heap) (lcv kcv : CV) (gl gk : Option Nat), LS H0 p9 a xa i lcv kcv gl gk H → i ≤ xa.length → e 5 = .ptr p5 0 → e 9 = .ptr p9 0 → e 10 = .int .i64 ((i : Int) - 1) →
    ∃ e' H' lcv' kcv' gl' gk', dCode Tryd.prog hk (.loop c7.l0) e H = some (.exit 0, e', H') ∧ LS H0 p9 a xa 0 lcv' kcv' gl' gk' H' ∧ e' 5 = .ptr p5 0 ∧ e' 9 = .ptr p9 0 ∧ e' 7 = e 7 := by
  intro i
  induction i with
  | zero =>
    intro e H lcv kcv gl gk h hi e5 e9 e10
    obtain ⟨e', k, k5, k9, k7⟩ := end7 (H := H) (e := e) (by rw [e10]; rfl)
    exact ⟨e', H, lcv, kcv, gl, gk, by rw [loop_step, k, next_exit], h, by rw [k5, e5], by rw [k9, e9], k7⟩
  | succ i ih =>
    intro e H lcv kcv gl gk h hi e5 e9 e10
    have e10' : e 10 = .int .i64 (i : Int) := by rw [e10]; congr 1; omega
    obtain ⟨e1, H1, lcv1, kcv1, gl1, gk1, k, h1, f5, f9, f10, f7⟩ := round7 h hp9 h5 h59 sla ska (by omega) hxa (by omega) hka e5 e9 e10'
    obtain ⟨e2, H2, lcv2, kcv2, gl2, gk2, k2, h2, g5, g9, g7⟩ := ih e1 H1 lcv1 kcv1 gl1 gk1 h1 (by omega) f5 f9 f10
    exact ⟨e2, H2, lcv2, kcv2, gl2, gk2, by rw [loop_step, k, next_normal, k2], h2, g5, g9, by rw [g7, f7]⟩

/-! ### the law -/

noncomputable def hookF : Hook := layer Tryd.prog hookD (fun f => f == 7) (truths [14])
theorem hF7 (a : List CV) (h : Heap) : hookF 7 a h = none := layer_top (by simp [truths]) rfl
theorem hF14 (h : Heap) : den Tryd.prog hookF 14 [] h = some (.bool true, h) := den_hook (layer_sp (by simp [truths]))
theorem denF {f : FuncId} {a : List CV} {h : Heap} {r : CV × Heap} (h3 : f ≠ 7) (h10 : f ≠ 14) (hd : den Tryd.prog hookD f a h = some r) : den Tryd.prog hookF f a h = some r :=
  den_hook (layer_old (by simp [truths, h10]) (by simpa using h3) hd)

def c7a : CC := match c7.s0 with | .seq a _ => a | _ => .skip
def c7r : CC := match c7.s0 with | .seq _ r => r | _ => .skip
theorem c7s : c7.s0 = .seq c7a c7r := rfl

theorem rest7 {S5 S7 S9 : Nat → Prop} {a b c : J} {ca cb cc : List CV} {p5 p7 p9 : Nat} {e : Env} {H : Heap} {t5 t7 t9 : Option TypeId} (e5 : e 5 = .ptr p5 0) (e7 : e 7 = .ptr p7 0) (e9 : e 9 = .ptr p9 0)
    (h5 : H[p5]? = some { cells := ca, st := .live, ty := t5 }) (h7 : H[p7]? = some { cells := cb, st := .live, ty := t7 }) (h9 : H[p9]? = some { cells := cc, st := .live, ty := t9 })
    (ra : RJ 7 S5 H a ca) (rb : RJ 7 S7 H b cb) (rc : RJ 7 S9 H c cc) (ga : GJ 7 a) (gb : GJ 7 b) (gc : GJ 7 c) (hac : sameN 7 a c = true) (hd : sameN 7 a otherJ = false) :
    ∃ H', fin c7.res (dCode Tryd.prog hookF c7r e H) = some (.bool true, H') := by
  let O : Blk := { cells := [.int .i64 5, .int .i64 0, .str (bs [115, 111, 109, 101, 32, 111, 116, 104, 101, 114, 32, 116, 101, 120, 116]), .nils, .nils, .int .i64 0], st := .live, ty := some 28 }
  have ro : ∀ G, RJ 7 (fun _ => False) G otherJ O.cells := fun G => rj_leaf
  obtain ⟨G1, d1⟩ := same16 7 S5 S5 (H ++ [O]) a a ca ca ra.app ra.app ga.wf.small ga.wf.small
  obtain ⟨G2, d2⟩ := same16 7 S5 S9 (H ++ [O] ++ G1) a c ca cc ra.app.app rc.app.app ga.wf.small gc.wf.small
  obtain ⟨G3, d3⟩ := same16 7 S9 S5 (H ++ [O] ++ G1 ++ G2) c a cc ca rc.app.app.app ra.app.app.app gc.wf.small ga.wf.small
  obtain ⟨G4, d4⟩ := same16 7 S5 S7 (H ++ [O] ++ G1 ++ G2 ++ G3) a b ca cb ra.app.app.app.app rb.app.app.app.app ga.wf.small gb.wf.small
  obtain ⟨G5, d5⟩ := same12 7 S5 S7 (H ++ [O] ++ G1 ++ G2 ++ G3 ++ G4) a b ca cb ra.app.app.app.app.app rb.app.app.app.app.app ga.wf gb.wf
  obtain ⟨G6, d6⟩ := same16 7 S7 S5 (H ++ [O] ++ G1 ++ G2 ++ G3 ++ G4 ++ G5) b a cb ca rb.app.app.app.app.app.app ra.app.app.app.app.app.app gb.wf.small ga.wf.small
  obtain ⟨G7, d7⟩ := same12 7 S5 S7 (H ++ [O] ++ G1 ++ G2 ++ G3 ++ G4 ++ G5 ++ G6) a b ca cb ra.app.app.app.app.app.app.app rb.app.app.app.app.app.app.app ga.wf gb.wf
  obtain ⟨G8, d8⟩ := same16 7 S5 (fun _ => False) (H ++ [O] ++ G1 ++ G2 ++ G3 ++ G4 ++ G5 ++ G6 ++ G7) a otherJ ca O.cells ra.app.app.app.app.app.app.app.app (ro _) ga.wf.small gj_other.wf.small
  have d1 := denF (by decide) (by decide) d1
  have d2 := denF (by decide) (by decide) d2
  have d3 := denF (by decide) (by decide) d3
  have d4 := denF (by decide) (by decide) d4
  have d5 := denF (by decide) (by decide) d5
  have d6 := denF (by decide) (by decide) d6
  have d7 := denF (by decide) (by decide) d7
  have d8 := denF (by decide) (by decide) d8
  rw [same_refl ga] at d1
  rw [hac] at d2
  rw [same_symm gc ga, hac] at d3
  rw [same_symm gb ga] at d6
  rw [hd] at d8
  simp only [List.append_assoc, List.cons_append, List.nil_append, O] at d1 d2 d3 d4 d5 d6 d7 d8
  have m5 : ∀ l, (H ++ l)[p5]? = some { cells := ca, st := .live, ty := t5 } := fun l => get_push h5
  have m7 : ∀ l, (H ++ l)[p7]? = some { cells := cb, st := .live, ty := t7 } := fun l => get_push h7
  have m9 : ∀ l, (H ++ l)[p9]? = some { cells := cc, st := .live, ty := t9 } := fun l => get_push h9
  have la := ra.len
  have lb := rb.len
  have lc := rc.len
  have ta : ca.take 6 = ca := List.take_of_length_le (Nat.le_of_eq la)
  have tb : cb.take 6 = cb := List.take_of_length_le (Nat.le_of_eq lb)
  have tc : cc.take 6 = cc := List.take_of_length_le (Nat.le_of_eq lc)
  simp [c7r, c7.s0, c7, e5, e7, e9, m5, m7, m9, la, lb, lc, ta, tb, tc, d1, d2, d3, d4, d5, d6, d7, d8, hF14]

/-- the part that makes c -/
theorem blk0 {X : Option (CX × Env × Heap)} {e : Env} {h : Heap} (hx : X = some (.exit 0, e, h)) : inBlk 0 X = some (.normal, e, h) := by rw [hx]; rfl

theorem turn7 {K : Heap} {e : Env} {a : J} {la ka : CV} {xa : List (List CV)} {p5 p7 p9 : Nat} (e5 : e 5 = .ptr p5 0) (e7 : e 7 = .ptr p7 0) (e9 : e 9 = .ptr p9 0) (h5 : K[p5]? = some { cells := jcells a la ka, st := .live, ty := some 28 }) (h59 : p5 ≠ p9)
    (h9 : K[p9]? = some { cells := jcells a la ka, st := .live, ty := some 28 }) (sla : Sl (fun c => c = p9) K 6 la xa) (ska : Sl (fun c => c = p9) K 1 ka (strs a.keys)) (hxl : xa.length = a.list.length) (ga : GJ 7 a) :
    ∃ e' K' lcv kcv, dCode Tryd.prog hookF c7a e K = some (.normal, e', K') ∧ e' 5 = .ptr p5 0 ∧ e' 7 = .ptr p7 0 ∧ e' 9 = .ptr p9 0 ∧ K'[p9]? = some { cells := jcells a lcv kcv, st := .live, ty := some 28 } ∧ K.length ≤ K'.length ∧ (∀ c, c < K.length → c ≠ p9 → K'[c]? = K[c]?) ∧
      ((lcv = la ∧ kcv = ka) ∨ a.kind = 7 ∧ Sl (fun _ => False) K' 6 lcv xa.reverse ∧ Sl (fun _ => False) K' 1 kcv (strs a.keys.reverse)) := by
  have hlk := fun h => ska.len (h := h)
  simp only [strs_len] at hlk
  have hp9 := lt_of_get h9
  have ga' := ga
  obtain ⟨g1, g2, g3, g4, g5, g6⟩ := ga'
  have q5 := h5
  have q9 := h9
  simp only [jcells] at q5 q9
  by_cases hk : a.kind = 7
  · by_cases hl : 1 < a.keys.length
    · have hw : IntKind.i64.wrap ((a.keys.length : Int) - 1) = (a.keys.length : Int) - 1 := by rw [IntKind.wrap_i64]; omega
      let K1 : Heap := K.set p9 { cells := jcells a .nils .nils, st := .live, ty := some 28 }
      have hkx : xa.length = a.keys.length := by rw [hxl, g3 hk]
      have L0 : LS K p9 a xa xa.length .nils .nils none none K1 := ⟨by simp [K1], fun c _ hn => List.getElem?_set_ne (Ne.symm hn), by simp [K1, hp9], by rw [List.drop_eq_nil_of_le (Nat.le_refl _)]; exact Ow.nil, by
        rw [hkx, List.drop_eq_nil_of_le (Nat.le_refl _)]; exact Ow.nil, by simp, by simp⟩
      obtain ⟨E, hE5, hE9, hE10, hE7, hrun⟩ : ∃ E : Env, E 5 = .ptr p5 0 ∧ E 9 = .ptr p9 0 ∧ E 10 = .int .i64 ((a.keys.length : Int) - 1) ∧ E 7 = .ptr p7 0 ∧ ∀ r : Env × Heap, dCode Tryd.prog hookF (.loop c7.l0) E K1 = some (.exit 0, r.1, r.2) → dCode Tryd.prog hookF c7a e K = some (.normal, r.1, r.2) := by
        refine ⟨?E, ?_, ?_, ?_, ?_, fun r hr => ?run⟩
        case run =>
          have h71 : ∀ x, (K.set p9 x)[p5]? = K[p5]? := fun x => List.getElem?_set_ne (Ne.symm h59)
          have h72 : ∀ x, (K.set p9 x)[p9]? = some x := fun x => List.getElem?_set_self hp9
          simp only [K1, jcells, hk] at hr
          have hlI : (1 : Int) < a.keys.length := by omega
          simp [c7a, c7.s0, e5, e9, q5, q9, hk, hlk, hlI, h71, h72, hw]
          apply blk0
          exact hr
        all_goals simp [e5, e7, e9]
      obtain ⟨e', K', lcv, kcv, gl, gk, k, L, f5, f9, f7⟩ := loop7 hp9 h5 h59 sla ska (by omega) g2 hkx xa.length E K1 .nils .nils none none L0 (Nat.le_refl _) hE5 hE9 (by rw [hE10, hkx])
      have hr := hrun (e', K') k
      refine ⟨e', K', lcv, kcv, hr, f5, by rw [f7, hE7], f9, L.h9, L.len, L.pre, .inr ⟨hk, ?_, ?_⟩⟩
      · have := L.ol.sl (S := fun _ => False) fun _ _ => id
        simpa using this
      · have := L.ok.sl (S := fun _ => False) fun _ _ => id
        simpa using this
    · refine ⟨?e2, K, la, ka, ?run2, ?_, ?_, ?_, h9, Nat.le_refl _, fun _ _ _ => rfl, .inl ⟨rfl, rfl⟩⟩
      case run2 =>
        have hlI : ¬ (1 : Int) < a.keys.length := by omega
        simp [c7a, c7.s0, e5, q5, hk, hlk, hlI]
        rfl
      all_goals simp [e5, e7, e9]
  · refine ⟨?e3, K, la, ka, ?run3, ?_, ?_, ?_, h9, Nat.le_refl _, fun _ _ _ => rfl, .inl ⟨rfl, rfl⟩⟩
    case run3 =>
      simp [c7a, c7.s0, e5, q5, hk]
      rfl
    all_goals simp [e5, e7, e9]

theorem jsonSame_run {S : Nat → Prop} {H0 : Heap} {cm cn : CV} {m n : List Int} (hm : Sl S H0 1 cm (ints m)) (hn : Sl S H0 1 cn (ints n)) : ∃ H', den Tryd.prog hookF 7 [cm, cn] H0 = some (.bool true, H') := by
  obtain ⟨H1, ca, va, da, Fa, Ra⟩ := tree_run hm
  let A : Blk := { cells := ca, st := .live, ty := some 28 }
  have F1 : Fr (fun _ => False) H0 (H1 ++ [A]) := Fa.trans (Fr.push _) fun _ _ h => h
  obtain ⟨H2, cb, vb, db, Fb, Rb⟩ := tree_run (hn.mono (H' := H1 ++ [A]) fun c hc _ => F1.2 c hc id)
  have da := denF (by decide) (by decide) da
  have db := denF (by decide) (by decide) db
  let B : Blk := { cells := cb, st := .live, ty := some 28 }
  let K : Heap := H2 ++ [B, A]
  have l1 := Fa.1
  have l2 := Fb.1
  have lA : (H1 ++ [A]).length = H1.length + 1 := by simp
  rw [lA] at l2
  have ga := gj_tree 6 m
  have gb := gj_tree 6 n
  have hA : H2[H1.length]? = some A := by rw [Fb.2 _ (by rw [lA]; omega) id]; simp
  have k5 : K[H1.length]? = some A := get_push hA
  have k7 : K[H2.length]? = some B := by simp [K]
  have k9 : K[H2.length + 1]? = some A := by simp [K]
  have fK : ∀ c, c < H1.length → K[c]? = H1[c]? := fun c hc => by
    simp only [K]
    rw [List.getElem?_append_left (by omega), Fb.2 c (by rw [lA]; omega) id, List.getElem?_append_left hc]
  have RaK : RJ 7 (fun c => c = H2.length + 1) K (treeF 6 m).1 ca := (Ra.weak (T := fun c => c = H2.length + 1) fun c hc e => by omega).mono fun c hc _ => fK c hc
  have RbK : RJ 7 (fun c => c = H2.length + 1) K (treeF 6 n).1 cb := (Rb.weak (T := fun c => c = H2.length + 1) fun c hc e => by omega).app
  have la := RaK.len
  have lb := RbK.len
  obtain ⟨lcv, kcv, xa, hca, sla, hxl, ra, ska⟩ := RaK
  obtain ⟨E, E5, E7, E9, hpre⟩ : ∃ E : Env, E 5 = .ptr H1.length 0 ∧ E 7 = .ptr H2.length 0 ∧ E 9 = .ptr (H2.length + 1) 0 ∧ ∀ r, fin c7.res (dCode Tryd.prog hookF c7.s0 E K) = r → den Tryd.prog hookF 7 [cm, cn] H0 = r := by
    refine ⟨?E, ?_, ?_, ?_, fun r hr => ?run⟩
    case run =>
      rw [den_of (hF7 _ _) Go.Cn.D.k7 (by simp [c7])]
      simp only [K, A, B] at hr
      simp only [A] at db hA
      have hAA : ∀ l, (H2 ++ l)[H1.length]? = some { cells := ca, st := .live, ty := some 28 } := fun l => get_push hA
      have ta : ca.take 6 = ca := List.take_of_length_le (Nat.le_of_eq la)
      have tb : cb.take 6 = cb := List.take_of_length_le (Nat.le_of_eq lb)
      simp [c7, c7.body, da, la, ta, db, lb, tb, hAA]
      exact hr
    all_goals simp
  obtain ⟨e', K', lcv', kcv', hd, e5, e7, e9, h9, hl, hpre2, hc⟩ := turn7 (la := lcv) (ka := kcv) (xa := xa) (a := (treeF 6 m).1) E5 E7 E9 (by rw [k5]; simp only [A, hca, jcells]) (by omega) (by rw [k9]; simp only [A, hca, jcells]) sla ska hxl ga
  have KL : K.length = H2.length + 2 := by simp [K]
  have RaK' : RJ 7 (fun c => c = H2.length + 1) K' (treeF 6 m).1 ca := RJ.mono (H := K) (fun c hc hn => hpre2 c hc hn) ⟨lcv, kcv, xa, hca, sla, hxl, ra, ska⟩
  have RbK' : RJ 7 (fun c => c = H2.length + 1) K' (treeF 6 n).1 cb := RbK.mono fun c hc hn => hpre2 c hc hn
  have k5' : K'[H1.length]? = some A := by rw [hpre2 _ (by omega) (by omega)]; exact k5
  have k7' : K'[H2.length]? = some B := by rw [hpre2 _ (by omega) (by omega)]; exact k7
  have main : ∃ c Sc, RJ 7 Sc K' c (jcells (treeF 6 m).1 lcv' kcv') ∧ GJ 7 c ∧ sameN 7 (treeF 6 m).1 c = true := by
    rcases hc with ⟨rfl, rfl⟩ | ⟨h7, s1, s2⟩
    · refine ⟨(treeF 6 m).1, fun c => c = H2.length + 1, ?_, ga, same_refl ga⟩
      rw [hca] at RaK'
      exact RaK'
    · refine ⟨revJ (treeF 6 m).1, fun _ => False, ⟨lcv', kcv', xa.reverse, rfl, s1, by simp [revJ_list, hxl], fun i x c hx hc => ?_, by rw [revJ_keys]; exact s2⟩, ga.rev, same_rev ga h7⟩
      have hi : i < xa.length := by have := (List.getElem?_eq_some_iff.1 hc).1; simpa using this
      rw [revJ_list, List.getElem?_reverse (by omega)] at hx
      rw [List.getElem?_reverse hi, hxl] at hc
      exact ((ra _ x c hx hc).mono (H' := K') fun c hc hn => hpre2 c hc hn).weak fun _ _ h => h.elim
  obtain ⟨c, Sc, rc, gc, hac⟩ := main
  obtain ⟨H', hfin⟩ := rest7 e5 e7 e9 k5' k7' h9 RaK' RbK' rc ga gb gc hac (same_other 6 m)
  refine ⟨H', hpre _ ?_⟩
  rw [c7s, seq_eq, hd, then_normal]
  exact hfin

end Go.Cn.D
