/- The operations that touch no memory: each canonical result is the machine's. -/
import Derived.Test.YtlmlpgmpdaepkaaDoorCnSim2
set_option linter.unusedSimpArgs false
set_option linter.unusedVariables false
set_option linter.unusedSectionVars false
namespace Go.Cn

theorem mapM_nil {α β : Type} {f : α → Option β} {l : List α} (h : l.mapM f = some []) : l = [] := by
  cases l with
  | nil => rfl
  | cons a l => simp [List.mapM_cons, Option.bind_eq_some_iff] at h

theorem mapM_cons {α β : Type} {f : α → Option β} {l : List α} {x : β} {r : List β} (h : l.mapM f = some (x :: r)) : ∃ a l', l = a :: l' ∧ f a = some x ∧ l'.mapM f = some r := by
  cases l with
  | nil => simp at h
  | cons a l =>
    rw [List.mapM_cons] at h
    simp only [Option.bind_eq_bind, Option.bind_eq_some_iff, Option.pure_def, Option.some.injEq, List.cons.injEq] at h
    obtain ⟨b, hb, r', hr, rfl, rfl⟩ := h
    exact ⟨a, l, rfl, hb, hr⟩

theorem mapM_one {α β : Type} {f : α → Option β} {l : List α} {x : β} (h : l.mapM f = some [x]) : ∃ a, l = [a] ∧ f a = some x := by
  obtain ⟨a, l', rfl, ha, h⟩ := mapM_cons h
  rw [mapM_nil h]
  exact ⟨a, rfl, ha⟩

theorem mapM_two {α β : Type} {f : α → Option β} {l : List α} {x y : β} (h : l.mapM f = some [x, y]) : ∃ a b, l = [a, b] ∧ f a = some x ∧ f b = some y := by
  obtain ⟨a, l', rfl, ha, h⟩ := mapM_cons h
  obtain ⟨b, rfl, hb⟩ := mapM_one h
  exact ⟨a, b, rfl, ha, hb⟩

section
variable {P : Program} {a : Act} {μ : Mp} {e : Env} {h h' : Heap} {v : CV}

def Res (P : Program) (s : Sem Value) (μ : Mp) (v : CV) : Prop := ∃ u, VR μ v u ∧ ∀ w, s.run P w = .ok u w

theorem Res.pureSim {o : Oper} {s : Sem Value} (hs : execOp a.eval o = (do pure (.value (← s)) : Sem Next)) (hr : Res P s μ v) : PureSim P o a μ v := by
  obtain ⟨u, hu, hw⟩ := hr
  exact ⟨u, hu, fun w => by rw [hs]; simp [hw w]⟩

theorem res_bin {op : BinOp} {t : TypeId} {x y : Operand} {x' y' : Opd} (hx : VR μ (x'.ev e) (a.eval x)) (hy : VR μ (y'.ev e) (a.eval y))
    (hv : cbin op (x'.ev e) (y'.ev e) = some v) : Res P (do eqGuard op t x y (a.eval x) (a.eval y); binOp op t (a.eval x) (a.eval y)) μ v := by
  generalize x'.ev e = cx at *
  generalize y'.ev e = cy at *
  cases cx <;> cases cy <;> first | (simp [cbin] at hv; done) | skip
  · simp only [VR, VRa, VRc] at hx hy
    rw [hx, hy]
    obtain ⟨u, hu, hw⟩ := run_binOp_int (P := P) (t := t) hv
    refine ⟨u, VR.of_c (hu μ), fun w => ?_⟩
    rw [Sem.run_bind, run_eqGuard_plain (by simp) (by simp)]
    exact hw w
  · simp only [VR, VRa, VRc] at hx hy
    rw [hx, hy]
    obtain ⟨u, hu, hw⟩ := run_binOp_str (P := P) (t := t) hv
    refine ⟨u, VR.of_c (hu μ), fun w => ?_⟩
    rw [Sem.run_bind, run_eqGuard_plain (by simp) (by simp)]
    exact hw w

theorem res_eqb {op : BinOp} {t : TypeId} {x y : Operand} {x' y' : Opd} (hu : P.underlying t = some .bool) (ho : op = .eql ∨ op = .neq) (hx : VR μ (x'.ev e) (a.eval x)) (hy : VR μ (y'.ev e) (a.eval y))
    (hv : exec e h (.eqb (op == .neq) x' y') = some (v, h')) : h' = h ∧ Res P (do eqGuard op t x y (a.eval x) (a.eval y); binOp op t (a.eval x) (a.eval y)) μ v := by
  simp only [exec] at hv
  generalize x'.ev e = cx at *
  generalize y'.ev e = cy at *
  split at hv
  · rename_i p q
    simp at hv
    obtain ⟨rfl, rfl⟩ := hv
    simp only [VR, VRa, VRc] at hx hy
    rw [hx, hy]
    refine ⟨rfl, .bool _, rfl, fun w => ?_⟩
    rw [Sem.run_bind, run_eqGuard_plain (by simp) (by simp)]
    rcases ho with rfl | rfl <;> simp [binOp, Op.equal, Op.maxDepth, run_equalIn_bool' w 9999 t p q hu]
  · simp at hv

theorem res_eqa {op : BinOp} {t : TypeId} {x y : Operand} {x' y' : Opd} {ks : List LK} {fs : Array Field} (hu : P.underlying t = some (.struct fs)) (hg : P.eqGuardType P.depth t = false)
    (hf : flatOK P Op.maxDepth t = some ks) (ho : op = .eql ∨ op = .neq) (hx : VR μ (x'.ev e) (a.eval x)) (hy : VR μ (y'.ev e) (a.eval y))
    (hv : exec e h (.eqa ks (op == .neq) x' y') = some (v, h')) : h' = h ∧ Res P (do eqGuard op t x y (a.eval x) (a.eval y); binOp op t (a.eval x) (a.eval y)) μ v := by
  simp only [exec] at hv
  generalize x'.ev e = cx at *
  generalize y'.ev e = cy at *
  split at hv
  · rename_i xs ys
    simp only [Option.map_eq_some_iff, Prod.mk.injEq] at hv
    obtain ⟨b, hb, rfl, rfl⟩ := hv
    obtain ⟨vx, hx, hlx⟩ := hx
    obtain ⟨vy, hy, hly⟩ := hy
    rw [hx, hy]
    have := flat_eq (P := P) (μ := μ) _ _ _ hf xs ys vx vy b hlx hly hb
    simp only [pk, hu] at this
    refine ⟨rfl, .bool (if (op == .neq) = true then !b else b), rfl, fun w => ?_⟩
    rw [Sem.run_bind, run_eqGuard_agg w op t x y _ _ hg]
    rcases ho with rfl | rfl <;> simp [binOp, Op.equal, this]
  · simp at hv

theorem res_eqn {op : BinOp} {t : TypeId} {d : TypeDesc} {k : Nat} {x y : Operand} {x' : Opd} (hu : P.underlying t = some d) (hd : nilKind d = some k) (ho : op = .eql ∨ op = .neq)
    (hx : VR μ (x'.ev e) (a.eval x)) (hy : constKind y = some k) (hv : exec e h (.eqn k (op == .neq) x') = some (v, h')) :
    h' = h ∧ Res P (do eqGuard op t x y (a.eval x) (a.eval y); binOp op t (a.eval x) (a.eval y)) μ v ∧ Res P (do eqGuard op t y x (a.eval y) (a.eval x); binOp op t (a.eval y) (a.eval x)) μ v := by
  simp only [exec, Option.map_eq_some_iff, Prod.mk.injEq] at hv
  obtain ⟨b, hb, rfl, rfl⟩ := hv
  have hk := constKind_spec hy
  have hz : (k = 0 ∧ a.eval y = .pointer none) ∨ (k = 1 ∧ a.eval y = .slice none 0 0) ∨ (k = 2 ∧ a.eval y = .nilFunc) ∨ (k = 3 ∧ a.eval y = .nilIface) := by
    rcases hk with ⟨rfl, rfl⟩ | ⟨rfl, rfl⟩ | ⟨rfl, rfl⟩ | ⟨rfl, rfl⟩ <;> simp [Act.eval]
  have he := fun w => run_eqNil (P := P) (w := w) hu hd hb hx hz
  have hc : ∃ c, y = .const c := by rcases hk with ⟨_, rfl⟩ | ⟨_, rfl⟩ | ⟨_, rfl⟩ | ⟨_, rfl⟩ <;> exact ⟨_, rfl⟩
  obtain ⟨c, rfl⟩ := hc
  have hxk := isNil_spec hb hx
  have g1 : ∀ w, (eqGuard op t x (.const c) (a.eval x) (a.eval (.const c))).run P w = .ok () w ∧ (eqGuard op t (.const c) x (a.eval (.const c)) (a.eval x)).run P w = .ok () w := by
    intro w
    by_cases hn : a.eval x = .nilIface ∧ a.eval (.const c) = .nilIface
    · rw [hn.1, hn.2]
      cases op <;> simp [eqGuard]
    · have h2 : ¬ ∃ xs ys, a.eval x = .agg xs ∧ a.eval (.const c) = .agg ys := by
        rintro ⟨xs, ys, hxa, _⟩
        rw [hxa] at hxk
        simp at hxk
      exact ⟨run_eqGuard_plain hn h2, run_eqGuard_plain (fun hh => hn ⟨hh.2, hh.1⟩) (fun ⟨xs, ys, hh⟩ => h2 ⟨ys, xs, hh.2, hh.1⟩)⟩
  have hnb : (∀ w, (binOp op t (a.eval x) (a.eval (.const c))).run P w = .ok (.bool (if (op == .neq) = true then !b else b)) w) ∧
      (∀ w, (binOp op t (a.eval (.const c)) (a.eval x)).run P w = .ok (.bool (if (op == .neq) = true then !b else b)) w) := by
    generalize a.eval x = u at *
    generalize a.eval (.const c) = z at *
    constructor <;> intro w
    · have h1 := (he w).1
      rcases hxk with ⟨rfl, a1, rfl, rfl⟩ | ⟨rfl, a1, l1, m1, rfl, rfl⟩ | ⟨rfl, ⟨rfl, rfl⟩ | ⟨f1, a1, m1, rfl, rfl⟩⟩ | ⟨rfl, ⟨rfl, rfl⟩ | ⟨t1, x1, rfl, rfl⟩⟩ <;> simp at hz <;> subst hz <;>
        rcases ho with rfl | rfl <;> simp [binOp, h1]
    · have h1 := (he w).2
      rcases hxk with ⟨rfl, a1, rfl, rfl⟩ | ⟨rfl, a1, l1, m1, rfl, rfl⟩ | ⟨rfl, ⟨rfl, rfl⟩ | ⟨f1, a1, m1, rfl, rfl⟩⟩ | ⟨rfl, ⟨rfl, rfl⟩ | ⟨t1, x1, rfl, rfl⟩⟩ <;> simp at hz <;> subst hz <;>
        rcases ho with rfl | rfl <;> simp [binOp, h1]
  exact ⟨rfl, ⟨_, rfl, fun w => by rw [Sem.run_bind, (g1 w).1]; exact hnb.1 w⟩, ⟨_, rfl, fun w => by rw [Sem.run_bind, (g1 w).2]; exact hnb.2 w⟩⟩

theorem res_un {op : UnOp} {x : Operand} {x' : Opd} (hx : VR μ (x'.ev e) (a.eval x)) (hv : cun op (x'.ev e) = some v) : Res P (Op.unary op (a.eval x)) μ v := by
  generalize x'.ev e = cx at *
  cases cx <;> first | (simp [cun] at hv; done) | skip
  · simp only [VR, VRa, VRc] at hx
    rw [hx]
    cases op <;> simp [cun] at hv <;> subst hv
    · exact ⟨_, rfl, fun w => by simp [Op.unary, Op.intArith]⟩
    · exact ⟨_, rfl, fun w => by simp [Op.unary, Op.intBits, ibits]⟩
  · simp only [VR, VRa, VRc] at hx
    rw [hx]
    cases op <;> simp [cun] at hv
    subst hv
    exact ⟨_, rfl, fun w => by simp [Op.unary]⟩

theorem run_convert_toint {src dst : TypeId} {k0 k k' : IntKind} {n : Int} {w : World} (hs : P.underlying src = some (.int k0)) (hd : P.underlying dst = some (.int k)) :
    (convert src dst (.int k' n)).run P w = .ok (.int k (k.wrap n)) w := by
  simp [convert, run_underlying hs, run_underlying hd, Conv.intToInt]

theorem run_convert_str {src dst : TypeId} {s : ByteArray} {w : World} (hs : P.underlying src = some .string) (hd : P.underlying dst = some .string) :
    (convert src dst (.string s)).run P w = .ok (.string s) w := by
  simp [convert, run_underlying hs, run_underlying hd]

theorem run_convert_istr {src dst : TypeId} {k0 k : IntKind} {n : Int} {w : World} (hs : P.underlying src = some (.int k0)) (hd : P.underlying dst = some .string) :
    (convert src dst (.int k n)).run P w = .ok (.string (Utf8.encode n)) w := by
  simp [convert, run_underlying hs, run_underlying hd, Conv.intToString]

theorem fold_splice (off : Nat) : ∀ (l : List Value) (k : Nat) (arr : Array Value), off + k + l.length ≤ arr.size →
    ((l.zipIdx k).foldl (fun cs (x : Value × Nat) => cs.setIfInBounds (off + x.2) x.1) arr).toList = arr.toList.take (off + k) ++ l ++ arr.toList.drop (off + k + l.length) := by
  intro l
  induction l with
  | nil => intro k arr h; simp
  | cons v l ih =>
    intro k arr h
    simp only [List.length_cons] at h
    simp only [List.zipIdx_cons, List.foldl_cons]
    rw [ih (k + 1) _ (by simp; omega)]
    have hk : off + k < arr.toList.length := by simp; omega
    rw [Array.toList_setIfInBounds, List.take_set, List.drop_set]
    rw [if_pos (by omega)]
    rw [show off + (k + 1) = off + k + 1 by omega, List.take_succ_eq_append_getElem hk]
    rw [List.set_append_right _ _ (by simp; omega)]
    simp [List.length_take]
    rw [show off + k - min (off + k) arr.size = 0 by omega]
    simp [show off + k + 1 + l.length = off + k + (l.length + 1) by omega]

theorem fill_fold (off : Nat) (arr cells : Array Value) (h : off + cells.size ≤ arr.size) :
    cells.zipIdx.foldl (fun cs (x : Value × Nat) => cs.setIfInBounds (off + x.2) x.1) arr = (arr.toList.take off ++ cells.toList ++ arr.toList.drop (off + cells.toList.length)).toArray := by
  apply Array.ext'
  rw [← Array.foldl_toList, Array.toList_zipIdx]
  simpa using fold_splice off cells.toList 0 arr (by simpa using h)

theorem fillC_run {place : Nat → Option (Nat × Nat)} : ∀ (ps : List (Nat × Operand)) (l : List (Nat × Nat × Opd)) (cs : List CV) (vs : List Value) (r : List CV),
    partsOf place ps = some l → (∀ p ∈ ps, ∀ x', opdOf p.2 = some x' → VR μ (x'.ev e) (a.eval p.2)) → VL μ cs vs → fillC cs (l.map fun p => (p.1, p.2.1, p.2.2.ev e)) = some r →
    ∃ us : List Value, Instr.fill place vs.toArray (ps.map fun p => (p.1, a.eval p.2)) = some us.toArray ∧ VL μ r us := by
  intro ps
  induction ps with
  | nil =>
    intro l cs vs r hl _ hc hr
    simp [partsOf] at hl
    subst hl
    simp [fillC] at hr
    subst hr
    exact ⟨vs, by simp [Instr.fill], hc⟩
  | cons p ps ih =>
    intro l cs vs r hl hR hc hr
    simp only [partsOf, List.mapM_cons, Option.bind_eq_bind, Option.bind_eq_some_iff, Option.pure_def, Option.some.injEq] at hl
    obtain ⟨q, ⟨pl, hpl, hq⟩, l', hl', rfl⟩ := hl
    simp only [Option.map_eq_some_iff] at hq
    obtain ⟨x', hx', rfl⟩ := hq
    simp only [List.map_cons, fillC] at hr
    split at hr
    · simp at hr
    · rename_i hn
      have hx := hR p (by simp) x' hx'
      simp only [not_or, Decidable.not_not, Nat.not_lt, Bool.not_eq_false] at hn
      obtain ⟨ho, hn1, hn2⟩ := hn
      have hcell := hx.cells ho
      have hlen := hcell.length
      have hlc := hc.length
      have hsz : (a.eval p.2).cells.size = pl.2 := by simpa [← hn1] using hlen.symm
      have hsp : VL μ (splice cs pl.1 (x'.ev e).cells) (vs.take pl.1 ++ (a.eval p.2).cells.toList ++ vs.drop (pl.1 + (a.eval p.2).cells.toList.length)) := by
        refine VL.mk ?_ ?_
        · simp [splice]; omega
        · intro i c u h1 h2
          simp only [splice] at h1
          by_cases hi1 : i < pl.1
          · rw [List.append_assoc, List.getElem?_append_left (by simp; omega), List.getElem?_take, if_pos hi1] at h1 h2
            obtain ⟨u', hu', hr'⟩ := hc.get h1
            rw [hu'] at h2; simp at h2; exact h2 ▸ hr'
          · by_cases hi2 : i < pl.1 + pl.2
            · rw [List.append_assoc, List.getElem?_append_right (by simp; omega), List.getElem?_append_left (by simp; omega)] at h1 h2
              have e1 : min pl.1 cs.length = min pl.1 vs.length := by omega
              simp only [List.length_take] at h1 h2
              rw [e1] at h1
              obtain ⟨u', hu', hr'⟩ := hcell.get h1
              rw [hu'] at h2; simp at h2; exact h2 ▸ hr'
            · rw [List.getElem?_append_right (by simp; omega)] at h1 h2
              simp only [List.length_append, List.length_take, List.getElem?_drop, ← hlen] at h1 h2
              rw [show min pl.1 vs.length = min pl.1 cs.length by omega] at h2
              obtain ⟨u', hu', hr'⟩ := hc.get h1
              rw [hu'] at h2; simp at h2; exact h2 ▸ hr'
      obtain ⟨us, hus, hr'⟩ := ih l' _ _ r hl' (fun q hq => hR q (by simp [hq])) hsp hr
      refine ⟨us, ?_, hr'⟩
      simp only [List.map_cons, Instr.fill, hpl]
      have hz : ¬ ((a.eval p.2).cells.size ≠ pl.2 || pl.1 + (a.eval p.2).cells.size > vs.toArray.size) = true := by
        simp [hsz]; omega
      rw [if_neg hz]
      rw [← hus, fill_fold pl.1 vs.toArray _ (by simp; omega)]

theorem run_mapM_list {α β : Type} {f : α → Sem β} {g : α → β} : ∀ (l : List α), (∀ x ∈ l, ∀ w, (f x).run P w = .ok (g x) w) → ∀ w, (l.mapM f).run P w = .ok (l.map g) w := by
  intro l
  induction l with
  | nil => intro _ w; simp
  | cons x l ih =>
    intro h w
    rw [List.mapM_cons]
    simp [h x (by simp) w, ih (fun y hy => h y (by simp [hy])) w]

theorem run_mapM_array {α β : Type} {f : α → Sem β} {g : α → β} (l : Array α) (h : ∀ x ∈ l, ∀ w, (f x).run P w = .ok (g x) w) (w : World) : (l.mapM f).run P w = .ok (l.map g) w := by
  rw [Array.mapM_eq_mapM_toList, Sem.run_map, run_mapM_list (g := g) l.toList (fun x hx => h x (by simpa using hx)) w]
  simp only [Result.andThen_ok]
  congr 1
  apply Array.ext'
  simp

theorem res_build {t : TypeId} {ps : Array (Nat × Operand)} {fs : Array Field} {zs r : List CV} {l : List (Nat × Nat × Opd)} (hu : P.underlying t = some (.struct fs)) (hz : zeroT P t = some zs)
    (hl : partsOf (fieldPlaces P fs) ps.toList = some l) (hfs : fs.all (fun f => (P.info? f.type).isSome) = true)
    (hR : ∀ p ∈ ps.toList, ∀ x', opdOf p.2 = some x' → VR μ (x'.ev e) (a.eval p.2)) (hv : fillC zs (l.map fun p => (p.1, p.2.1, p.2.2.ev e)) = some r) :
    Res P (Instr.build t (ps.map fun p => (p.1, a.eval p.2))) μ (.agg r) := by
  simp only [zeroT, Option.bind_eq_some_iff] at hz
  obtain ⟨i, hi, z, hzz, hcz⟩ := hz
  obtain ⟨us, hus, hr⟩ := fillC_run ps.toList l zs z.cells.toList r hl hR (vl_of_cvOfL hcz) hv
  refine ⟨.agg us.toArray, ⟨us, rfl, hr⟩, fun w => ?_⟩
  have hm := fun w => run_mapM_array (P := P) (f := fun f : Field => (do pure (f.offset, ← sizeOf f.type) : Sem (Nat × Nat))) (g := fun f => (f.offset, P.cellsOf f.type)) fs (by
    intro f hf w
    have := Array.all_eq_true_iff_forall_mem.1 hfs f hf
    obtain ⟨j, hj⟩ := Option.isSome_iff_exists.1 this
    simp [run_sizeOf w hj]) w
  have hp : (fun i => (fs.map fun f => (f.offset, P.cellsOf f.type))[i]?) = fieldPlaces P fs := by
    funext i
    simp only [Array.getElem?_map, fieldPlaces]
    cases hf : fs[i]? with
    | none => rfl
    | some f =>
      have hm : f ∈ fs := Array.mem_of_getElem? hf
      have := Array.all_eq_true_iff_forall_mem.1 hfs f hm
      obtain ⟨j, hj⟩ := Option.isSome_iff_exists.1 this
      simp [sizeT, hj, Program.cellsOf]
  simp only [Instr.build, zeroValue, Sem.run_bind, run_typeInfo w hi, hzz, Result.andThen_ok, Sem.run_pure, run_underlying hu, hm w]
  rw [hp]
  have : (ps.map fun p => (p.1, a.eval p.2)).toList = ps.toList.map fun p => (p.1, a.eval p.2) := by simp
  simp only [this]
  rw [Array.toArray_toList] at hus
  rw [hus]
  rfl


theorem run_sliceBound {y y' i : Nat} {c : CV} {u : Value} {code : BoundsCode} (h : bound y c = some i) (hy : y ≤ y') (hr : VR μ c u) (w : World) : (Instr.sliceBound u y' code).run P w = .ok i w := by
  unfold bound at h
  split at h
  · rename_i k n
    split at h
    · rename_i hb
      simp at h
      simp only [VR, VRa, VRc] at hr
      subst hr h
      have : 0 ≤ n ∧ n ≤ (y' : Int) := by omega
      simp [Instr.sliceBound, asIntOf, this]
    · simp at h
  · simp at h

theorem bound_le {y i : Nat} {c : CV} (h : bound y c = some i) : i ≤ y := by
  unfold bound at h
  split at h
  · split at h
    · simp at h; omega
    · simp at h
  · simp at h

/-- what stands for an operand that may lack -/
def OptR (μ : Mp) (e : Env) (a : Act) (x : Option Operand) (x' : Option Opd) : Prop :=
  match x, x' with
  | none, none => True
  | some x, some x' => VR μ (x'.ev e) (a.eval x)
  | _, _ => False

theorem run_sliceBounds {isSlice : Bool} {len cap cap' : Nat} {lo hi mx : Option Operand} {lo' hi' mx' : Option Opd} {l hh m : Nat} (hc : cap ≤ cap')
    (hlo : OptR μ e a lo lo') (hhi : OptR μ e a hi hi') (hmx : OptR μ e a mx mx') (hm : boundO cap cap e mx' = some m) (hh1 : boundO m len e hi' = some hh) (hl : boundO hh 0 e lo' = some l)
    (hne : ¬ (mx'.isSome ∧ hi'.isNone)) (w : World) : (Instr.sliceBounds isSlice len cap' (lo.map a.eval) (hi.map a.eval) (mx.map a.eval)).run P w = .ok (l, hh, if mx'.isSome then m else cap') w := by
  cases mx <;> cases mx' <;> simp [OptR] at hmx <;> cases hi <;> cases hi' <;> simp [OptR] at hhi <;> cases lo <;> cases lo' <;> simp [OptR] at hlo <;> simp [boundO] at hm hh1 hl hne
  all_goals (try subst hm)
  all_goals (try subst hh1)
  all_goals (try subst hl)
  all_goals simp only [Instr.sliceBounds, Option.map_some, Option.map_none, Sem.run_bind, Sem.run_pure, Result.andThen_ok, Option.isSome_some, Option.isSome_none, if_true, if_false, Bool.false_eq_true]
  all_goals (try simp only [run_sliceBound (P := P) hm hc hmx w, Result.andThen_ok])
  all_goals (try simp only [run_sliceBound (P := P) hh1 hc hhi w, Result.andThen_ok])
  all_goals (try simp only [run_sliceBound (P := P) hh1 (Nat.le_refl _) hhi w, Result.andThen_ok])
  all_goals (try simp only [run_sliceBound (P := P) hl (Nat.le_refl _) hlo w, Result.andThen_ok])

theorem boundO_le {y d : Nat} {x : Option Opd} {i : Nat} (hd : d ≤ y) (h : boundO y d e x = some i) : i ≤ y := by
  cases x with
  | none => simp [boundO] at h; omega
  | some x => exact bound_le (by simpa [boundO] using h)

theorem Addr.add_none (r o n : Nat) : (⟨r, o, none⟩ : Addr).add n = ⟨r, o + n, none⟩ := by
  unfold Addr.add; split <;> simp_all

theorem res_slice {t el : TypeId} {k : Nat} {x : Operand} {x' : Opd} {lo hi mx : Option Operand} {lo' hi' mx' : Option Opd} (hu : P.underlying t = some (.slice el)) (hk : sizeT P el = some k)
    (hx : VR μ (x'.ev e) (a.eval x)) (hlo : OptR μ e a lo lo') (hhi : OptR μ e a hi hi') (hmx : OptR μ e a mx mx') (hv : exec e h (.slice k x' lo' hi' mx') = some (v, h')) :
    h' = h ∧ Res P (Instr.sliceAt t (a.eval x) (lo.map a.eval) (hi.map a.eval) (mx.map a.eval)) μ v := by
  simp only [exec] at hv
  simp only [sizeT, Option.map_eq_some_iff] at hk
  obtain ⟨i, hi1, hik⟩ := hk
  have hsz : ∀ w, (sizeOf el).run P w = .ok k w := fun w => by simp [run_sizeOf w hi1, Program.cellsOf, hi1, hik]
  generalize x'.ev e = cx at *
  split at hv
  · split at hv
    · rename_i m hm
      split at hv
      · rename_i hh hh1
        split at hv
        · rename_i l hl
          split at hv
          · simp at hv
          rename_i hne
          simp only [Option.some.injEq, Prod.mk.injEq] at hv
          obtain ⟨rfl, rfl⟩ := hv
          simp only [VR, VRa, VRc] at hx
          rw [hx]
          have hm0 : m = 0 := by have := boundO_le (Nat.le_refl _) hm; omega
          subst hm0
          have hh0 : hh = 0 := by have := boundO_le (Nat.le_refl _) hh1; omega
          subst hh0
          have hl0 : l = 0 := by have := boundO_le (Nat.le_refl _) hl; omega
          subst hl0
          refine ⟨rfl, .slice none 0 0, rfl, fun w => ?_⟩
          have hb := run_sliceBounds (P := P) (isSlice := true) (Nat.le_refl 0) hlo hhi hmx hm hh1 hl hne w
          simp only [Instr.sliceAt, Instr.slice, Sem.run_bind, run_underlying hu, Result.andThen_ok, hb, hsz]
          cases mx' <;> simp
        · simp at hv
      · simp at hv
    · simp at hv
  · rename_i b off len cap k' ex
    split at hv
    · simp at hv
    · rename_i hkk
      split at hv
      · rename_i m hm
        split at hv
        · rename_i hh hh1
          split at hv
          · rename_i l hl
            split at hv
            · simp at hv
            · rename_i hne
              simp at hv
              obtain ⟨rfl, rfl⟩ := hv
              have hkk' : k' = k := by simpa using hkk
              subst hkk'
              simp only [VR, VRa, VRc] at hx
              obtain ⟨pl, ad, cap', hmu, hxe, h1, h2, h3, h4, h5⟩ := hx
              rw [hxe]
              have hmc := boundO_le (Nat.le_refl _) hm
              have hhm : hh ≤ m := by
                cases hi' with
                | none =>
                  cases mx' with
                  | none => simp [boundO] at hm hh1; omega
                  | some _ => simp at hne
                | some z => exact bound_le (by simpa [boundO] using hh1)
              have hlh := boundO_le (Nat.zero_le _) hl
              generalize hM : (if mx'.isSome then m else cap') = M
              have hMm : m ≤ M ∧ M ≤ cap' := by
                rw [← hM]
                split
                · omega
                · cases mx' with
                  | none => simp [boundO] at hm; omega
                  | some _ => simp at *
              refine ⟨rfl, .slice (some (if M = l then ad else ad.add (l * k'))) (hh - l) (M - l), ?_, fun w => ?_⟩
              · refine VR.of_c ⟨pl, _, _, hmu, rfl, by omega, by omega, ?_, h4, ?_⟩
                · intro hex
                  rw [← hM]
                  cases mx' with
                  | some _ => simp
                  | none =>
                    simp at hex
                    have := h3 hex
                    simp [boundO] at hm
                    simp; omega
                · by_cases hMl : M = l
                  · left; omega
                  · right
                    rcases h5 with h5 | ⟨rfl, h5⟩
                    · omega
                    · rw [if_neg hMl, Addr.add_none]
                      refine ⟨by rw [Nat.add_assoc], ?_⟩
                      have : l * k' + (M - l) * k' ≤ cap' * k' := by
                        rw [← Nat.add_mul]; exact Nat.mul_le_mul_right _ (by omega)
                      omega
              · have hb := run_sliceBounds (P := P) (isSlice := true) (cap' := cap') h2 hlo hhi hmx hm hh1 hl hne w
                rw [hM] at hb
                simp only [Instr.sliceAt, Instr.slice, Sem.run_bind, run_underlying hu, Result.andThen_ok, hb, hsz, Sem.run_pure]
                split <;> simp
          · simp at hv
        · simp at hv
      · simp at hv
  · simp at hv

theorem res_sslice {t : TypeId} {x : Operand} {x' : Opd} {lo hi : Option Operand} {lo' hi' : Option Opd} (hu : P.underlying t = some .string)
    (hx : VR μ (x'.ev e) (a.eval x)) (hlo : OptR μ e a lo lo') (hhi : OptR μ e a hi hi') (hv : exec e h (.sslice x' lo' hi') = some (v, h')) :
    h' = h ∧ Res P (Instr.sliceAt t (a.eval x) (lo.map a.eval) (hi.map a.eval) none) μ v := by
  simp only [exec] at hv
  generalize x'.ev e = cx at *
  split at hv
  · rename_i s
    split at hv
    · rename_i hh hh1
      split at hv
      · rename_i l hl
        simp at hv
        obtain ⟨rfl, rfl⟩ := hv
        simp only [VR, VRa, VRc] at hx
        rw [hx]
        refine ⟨rfl, .string (s.extract l hh), rfl, fun w => ?_⟩
        have hb := run_sliceBounds (P := P) (isSlice := false) (mx := none) (mx' := none) (Nat.le_refl s.size) hlo hhi trivial rfl hh1 hl (by simp) w
        simp at hb
        simp [Instr.sliceAt, Instr.slice, run_underlying hu, hb]
      · simp at hv
    · simp at hv
  · simp at hv

theorem res_faddr {s : TypeId} {x : Operand} {x' : Opd} {f n : Nat} {fs : Array Field} {fd : Field} (hu : P.underlying s = some (.struct fs)) (hf : fs[f]? = some fd) (hn : sizeT P fd.type = some n) (h0 : n ≠ 0)
    (hx : VR μ (x'.ev e) (a.eval x)) (hv : exec e h (.faddr fd.offset x') = some (v, h')) : h' = h ∧ Res P (Instr.fieldAt s (a.eval x) f) μ v := by
  simp only [sizeT, Option.map_eq_some_iff] at hn
  obtain ⟨i, hi, rfl⟩ := hn
  simp only [exec] at hv
  generalize x'.ev e = cx at *
  split at hv
  · rename_i b o
    simp at hv
    obtain ⟨rfl, rfl⟩ := hv
    simp only [VR, VRa, VRc] at hx
    obtain ⟨pl, hmu, hx⟩ := hx
    rw [hx]
    refine ⟨rfl, .pointer (some ⟨pl.r, pl.δ + (o + fd.offset), none⟩), ⟨pl, hmu, rfl⟩, fun w => ?_⟩
    simp [Instr.fieldAt, run_underlying hu, hf, Instr.sureAddr, fieldPlace, sizeOf, run_typeInfo w hi, h0, Addr.add_none, Nat.add_assoc]
  · simp at hv

theorem res_fld {t : TypeId} {x : Operand} {x' : Opd} {f : Nat} {n : Option Nat} {fs : Array Field} {fd : Field} (hu : P.underlying t = some (.struct fs)) (hf : fs[f]? = some fd)
    (hn : (isAggT P fd.type = some true ∧ ∃ m, sizeT P fd.type = some m ∧ n = some m) ∨ (isAggT P fd.type = some false ∧ n = none))
    (hx : VR μ (x'.ev e) (a.eval x)) (hv : exec e h (.fld fd.offset n x') = some (v, h')) : h' = h ∧ Res P (Instr.field t (a.eval x) f) μ v := by
  simp only [exec] at hv
  generalize x'.ev e = cx at *
  have hagg : ∀ bb w, isAggT P fd.type = some bb → (isAgg fd.type).run P w = .ok bb w := by
    intro bb w hb
    unfold isAggT at hb
    split at hb <;> simp at hb <;> subst hb <;> rename_i hu' <;> simp [isAgg, run_underlying hu']
  split at hv
  · rename_i cs
    obtain ⟨vs, hx, hl⟩ := hx
    rw [hx]
    rcases hn with ⟨ha, m, hm, rfl⟩ | ⟨ha, rfl⟩
    · simp only [sizeT, Option.map_eq_some_iff] at hm
      obtain ⟨i, hi, rfl⟩ := hm
      dsimp only at hv
      split at hv
      · rename_i hle
        simp at hv
        obtain ⟨rfl, rfl⟩ := hv
        refine ⟨rfl, .agg (vs.toArray.extract fd.offset (fd.offset + i.size)), ⟨(vs.drop fd.offset).take i.size, by simp, ?_⟩, fun w => ?_⟩
        · refine VL.mk (by simp [hl.length]) fun j c u hc hu => ?_
          rw [List.getElem?_take] at hc hu
          split at hc
          · rename_i hj
            rw [if_pos hj] at hu
            rw [List.getElem?_drop] at hc hu
            obtain ⟨u', hu', hr⟩ := hl.get hc
            rw [hu'] at hu; simp at hu; exact hu ▸ hr
          · simp at hc
        · simp [Instr.field, run_underlying hu, hf, asAgg, part, hagg true w ha, sizeOf, run_typeInfo w hi]
      · simp at hv
    · dsimp only at hv
      split at hv
      · rename_i c hc
        simp at hv
        obtain ⟨rfl, rfl⟩ := hv
        obtain ⟨u, hu', hr⟩ := hl.get hc
        refine ⟨rfl, u, VR.of_c hr, fun w => ?_⟩
        simp [Instr.field, run_underlying hu, hf, asAgg, part, hagg false w ha, hu']
      · simp at hv
  · simp at hv

theorem res_iaddr {t el : TypeId} {k : Nat} {x i : Operand} {x' i' : Opd} (hu : P.underlying t = some (.slice el)) (hk : sizeT P el = some k) (hx : VR μ (x'.ev e) (a.eval x)) (hi : VR μ (i'.ev e) (a.eval i))
    (hv : exec e h (.iaddr k x' i') = some (v, h')) : h' = h ∧ Res P (Instr.indexAt t (a.eval x) (a.eval i)) μ v := by
  simp only [sizeT, Option.map_eq_some_iff] at hk
  obtain ⟨ti, hti, rfl⟩ := hk
  simp only [exec] at hv
  generalize x'.ev e = cx at *
  generalize i'.ev e = ci at *
  split at hv
  · rename_i b off len cap k' ex kk n
    split at hv
    · rename_i hc
      obtain ⟨rfl, h0, h1⟩ := hc
      simp at hv
      obtain ⟨rfl, rfl⟩ := hv
      simp only [VR, VRa, VRc] at hx hi
      obtain ⟨pl, ad, cap', hmu, hxe, g1, g2, g3, g4, g5⟩ := hx
      rw [hxe, hi]
      rcases g5 with g5 | ⟨rfl, g5⟩
      · omega
      · refine ⟨rfl, .pointer (some ⟨pl.r, pl.δ + (off + n.toNat * ti.size), none⟩), ⟨pl, hmu, rfl⟩, fun w => ?_⟩
        simp [Instr.indexAt, asIntOf, run_underlying hu, h0, h1, sizeOf, run_typeInfo w hti, Addr.add_none, Nat.add_assoc]
    · simp at hv
  · simp at hv

theorem res_idx {t : TypeId} {x i : Operand} {x' i' : Opd} (hu : P.underlying t = some .string) (hx : VR μ (x'.ev e) (a.eval x)) (hi : VR μ (i'.ev e) (a.eval i))
    (hv : exec e h (.idx x' i') = some (v, h')) : h' = h ∧ Res P (Instr.index t (a.eval x) (a.eval i)) μ v := by
  simp only [exec] at hv
  generalize x'.ev e = cx at *
  generalize i'.ev e = ci at *
  split at hv
  · rename_i s kk n
    split at hv
    · rename_i bb hb
      simp at hv
      obtain ⟨rfl, rfl⟩ := hv
      split at hb
      · rename_i h0
        simp only [VR, VRa, VRc] at hx hi
        rw [hx, hi]
        refine ⟨rfl, .int .u8 bb.toNat, rfl, fun w => ?_⟩
        have : s[n.toNat]? = some bb := by
          obtain ⟨hlt, he⟩ := List.getElem?_eq_some_iff.1 hb
          have hlt' : n.toNat < s.size := by rw [Array.length_toList] at hlt; exact hlt
          rw [getElem?_pos s n.toNat hlt', ← he]
          rfl
        simp [Instr.index, asIntOf, run_underlying hu, h0, this]
      · simp at hb
    · simp at hv
  · simp at hv

theorem res_ext {x : Operand} {x' : Opd} {i : Nat} (hx : VR μ (x'.ev e) (a.eval x)) (hv : exec e h (.ext x' i) = some (v, h')) : h' = h ∧ Res P (Instr.extract (a.eval x) i) μ v := by
  simp only [exec] at hv
  generalize x'.ev e = cx at *
  split at hv
  · rename_i vs
    split at hv
    · rename_i c hc
      simp at hv
      obtain ⟨rfl, rfl⟩ := hv
      obtain ⟨us, hx, hl⟩ := hx
      rw [hx]
      obtain ⟨u, hu, hr⟩ := hl.get hc
      exact ⟨rfl, u, VR.of_a hr, fun w => by simp [Instr.extract, hu]⟩
    · simp at hv
  · simp at hv

theorem res_slen {argTypes : Array TypeId} {ty : TypeId} {x : Operand} {x' : Opd} (ht : argTypes[0]?.bind P.underlying = some .string) (hx : VR μ (x'.ev e) (a.eval x))
    (hv : exec e h (.slen x') = some (v, h')) : h' = h ∧ Res P (Builtin.len_ argTypes ty #[a.eval x]) μ v := by
  simp only [exec] at hv
  generalize x'.ev e = cx at *
  obtain ⟨t, ht0, hu⟩ := Option.bind_eq_some_iff.1 ht
  split at hv
  · rename_i s
    simp at hv
    obtain ⟨rfl, rfl⟩ := hv
    simp only [VR, VRa, VRc] at hx
    rw [hx]
    exact ⟨rfl, .int .i64 s.size, rfl, fun w => by simp [Builtin.len_, ht0, run_underlying hu, goInt]⟩
  · simp at hv

theorem res_len {argTypes : Array TypeId} {ty el : TypeId} {x : Operand} {x' : Opd} (ht : argTypes[0]?.bind P.underlying = some (.slice el)) (hx : VR μ (x'.ev e) (a.eval x))
    (hv : exec e h (.len x') = some (v, h')) : h' = h ∧ Res P (Builtin.len_ argTypes ty #[a.eval x]) μ v := by
  simp only [exec] at hv
  generalize x'.ev e = cx at *
  obtain ⟨t, ht0, hu⟩ := Option.bind_eq_some_iff.1 ht
  split at hv
  · rename_i b off len cap k ex
    simp at hv
    obtain ⟨rfl, rfl⟩ := hv
    simp only [VR, VRa, VRc] at hx
    obtain ⟨pl, ad, cap', hmu, hx, _⟩ := hx
    rw [hx]
    exact ⟨rfl, .int .i64 len, rfl, fun w => by simp [Builtin.len_, ht0, run_underlying hu, goInt]⟩
  · simp at hv
    obtain ⟨rfl, rfl⟩ := hv
    simp only [VR, VRa, VRc] at hx
    rw [hx]
    exact ⟨rfl, .int .i64 0, rfl, fun w => by simp [Builtin.len_, ht0, run_underlying hu, goInt]⟩
  · simp at hv

theorem res_min2 {argTypes : Array TypeId} {ty : TypeId} {x y : Operand} {x' y' : Opd} (hx : VR μ (x'.ev e) (a.eval x)) (hy : VR μ (y'.ev e) (a.eval y))
    (hv : exec e h (.min2 x' y') = some (v, h')) : h' = h ∧ Res P (Builtin.min_ argTypes ty #[a.eval x, a.eval y]) μ v := by
  simp only [exec] at hv
  generalize x'.ev e = cx at *
  generalize y'.ev e = cy at *
  split at hv
  · rename_i k p k' q
    simp only [Option.some.injEq, Prod.mk.injEq] at hv
    obtain ⟨rfl, rfl⟩ := hv
    simp only [VR, VRa, VRc] at hx hy
    rw [hx, hy]
    exact ⟨rfl, .int k (if q < p then q else p), rfl, fun w => by simp [Builtin.min_, Builtin.min2]⟩
  · simp at hv

theorem res_max2 {argTypes : Array TypeId} {ty : TypeId} {x y : Operand} {x' y' : Opd} (hx : VR μ (x'.ev e) (a.eval x)) (hy : VR μ (y'.ev e) (a.eval y))
    (hv : exec e h (.max2 x' y') = some (v, h')) : h' = h ∧ Res P (Builtin.max_ argTypes ty #[a.eval x, a.eval y]) μ v := by
  simp only [exec] at hv
  generalize x'.ev e = cx at *
  generalize y'.ev e = cy at *
  split at hv
  · rename_i k p k' q
    simp only [Option.some.injEq, Prod.mk.injEq] at hv
    obtain ⟨rfl, rfl⟩ := hv
    simp only [VR, VRa, VRc] at hx hy
    rw [hx, hy]
    exact ⟨rfl, .int k (if q > p then q else p), rfl, fun w => by simp [Builtin.max_, Builtin.max2]⟩
  · simp at hv

theorem ptrs_run {f : FuncId} : ∀ (caps : List Operand) (caps' : List Opd) (cs : List (Nat × Nat)), caps.mapM opdOf = some caps' → (∀ x ∈ caps, ∀ x', opdOf x = some x' → VR μ (x'.ev e) (a.eval x)) →
    ptrsOf (caps'.map (Opd.ev e)) = some cs → caps.length = cs.length ∧ ∀ (i : Nat) c, cs[i]? = some c → ∃ pl, μ c.1 = some pl ∧ (caps.map a.eval)[i]? = some (.pointer (some ⟨pl.r, pl.δ + c.2, none⟩)) := by
  intro caps
  induction caps with
  | nil =>
    intro caps' cs hm _ hp
    simp at hm
    subst hm
    simp [ptrsOf] at hp
    subst hp
    simp
  | cons x caps ih =>
    intro caps' cs hm hR hp
    rw [List.mapM_cons] at hm
    simp only [Option.bind_eq_bind, Option.bind_eq_some_iff, Option.pure_def, Option.some.injEq] at hm
    obtain ⟨x', hx', l', hl', rfl⟩ := hm
    simp only [List.map_cons, ptrsOf] at hp
    split at hp
    · rename_i b o r h1 h2
      simp at hp
      subst hp
      have hx := hR x (by simp) x' hx'
      rw [h1] at hx
      simp only [VR, VRa, VRc] at hx
      obtain ⟨pl, hmu, hx⟩ := hx
      obtain ⟨i1, i2⟩ := ih l' r hl' (fun y hy => hR y (by simp [hy])) h2
      refine ⟨by simp [i1], fun i c hc => ?_⟩
      cases i with
      | zero => simp at hc; subst hc; exact ⟨pl, hmu, by simp [hx]⟩
      | succ i => simp at hc; simpa using i2 i c hc
    · simp at hp

end
end Go.Cn
