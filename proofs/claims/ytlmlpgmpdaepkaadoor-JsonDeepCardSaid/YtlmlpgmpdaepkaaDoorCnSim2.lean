/- The operations that read and write no memory. -/
import Derived.Test.YtlmlpgmpdaepkaaDoorCnSim1
import Derived.ChangeKeysEq
import Derived.Laws.StructEq
set_option linter.unusedSimpArgs false
set_option linter.unusedVariables false
set_option linter.unusedSectionVars false
namespace Go.Cn

theorem vrc_of_cvOf1 {μ : Mp} {v : Value} {c : CV} (h : cvOf1 v = some c) : VRc μ c v := by
  unfold cvOf1 at h
  split at h <;> simp at h <;> subst h <;> simp [VRc]

theorem vl_of_cvOfL {μ : Mp} : ∀ {vs : List Value} {cs : List CV}, cvOfL vs = some cs → VL μ cs vs
  | [], cs, h => by simp [cvOfL] at h; subst h; trivial
  | v :: vs, cs, h => by
    unfold cvOfL at h
    split at h
    · rename_i c cs' h1 h2
      simp at h; subst h
      exact ⟨vrc_of_cvOf1 h1, vl_of_cvOfL h2⟩
    · simp at h

theorem vr_of_cvOf {μ : Mp} {v : Value} {c : CV} (h : cvOf v = some c) : VR μ c v := by
  unfold cvOf at h
  split at h <;> simp at h
  case h_8 cs =>
    obtain ⟨l, hl, rfl⟩ := h
    exact ⟨cs.toList, by simp, vl_of_cvOfL hl⟩
  all_goals (subst h; simp [VR, VRa, VRc])

/-- what the operands of an operation stand for -/
def OpsR (μ : Mp) (e : Env) (a : Act) (o : Oper) : Prop := ∀ x ∈ o.op.operands, ∀ x', opdOf x = some x' → VR μ (x'.ev e) (a.eval x)

/-- an operation that reads and writes nothing -/
def PureSim (P : Program) (o : Oper) (a : Act) (μ : Mp) (v : CV) : Prop := ∃ u, VR μ v u ∧ ∀ w, (execOp a.eval o).run P w = .ok (.value u) w

theorem BinOp.eq_or (op : BinOp) : (op = .eql ∨ op = .neq) ∨ ((op matches .eql | .neq) = false) := by cases op <;> simp

theorem run_eqGuard_plain {P : Program} {w : World} {op : BinOp} {t : TypeId} {x y : Operand} {a b : Value}
    (h1 : ¬ (a = .nilIface ∧ b = .nilIface)) (h2 : ¬ ∃ xs ys, a = .agg xs ∧ b = .agg ys) : (eqGuard op t x y a b).run P w = .ok () w := by
  cases op <;> simp only [eqGuard, Bool.not_true, Bool.not_false, Bool.false_eq_true, if_false, if_true] <;> first
    | rfl
    | (split
       · exact absurd ⟨rfl, rfl⟩ h1
       · exact absurd ⟨_, _, rfl, rfl⟩ h2
       · rfl)

theorem decide_eq_beq {α : Type} [DecidableEq α] (a b : α) : decide (a = b) = (a == b) := by
  by_cases h : a = b <;> simp [h]

theorem bytes_beq (a b : ByteArray) : (a.toList == b.toList) = decide (a = b) := by
  have : a.toList = b.toList ↔ a = b := by
    rw [ByteArray.toList_eq, ByteArray.toList_eq]
    constructor
    · intro h; cases a; cases b; simp at h; simp [h]
    · intro h; rw [h]
  by_cases h : a = b
  · subst h; simp
  · simp [h, this]

theorem run_binOp_int {P : Program} {op : BinOp} {t : TypeId} {k k' : IntKind} {x y : Int} {v : CV} (h : cbin op (.int k x) (.int k' y) = some v) :
    ∃ u, (∀ μ, VRc μ v u) ∧ ∀ w, (binOp op t (.int k x) (.int k' y)).run P w = .ok u w := by
  cases op <;> simp only [cbin] at h
  all_goals first
    | (split at h
       · simp at h
       · first
         | (simp at h; subst h; rename_i hk
            refine ⟨_, fun _ => rfl, fun _ => ?_⟩
            simp [binOp, Op.shift, hk]; done)
         | (simp at h; subst h; rename_i hk
            have hk' : k = k' := by simpa using hk
            subst hk'
            refine ⟨_, fun _ => rfl, fun _ => ?_⟩
            simp [binOp, Op.intArith, Op.intBits, Op.intCmp, ibits, decide_eq_beq, bne]; done)
         | (rename_i hk
            split at h
            · simp at h
            · rename_i hy
              simp at h; subst h
              have hk' : k = k' := by simpa using hk
              subst hk'
              refine ⟨_, fun _ => rfl, fun _ => ?_⟩
              simp [binOp, Op.intDiv, hy]))

set_option linter.unusedVariables false in
theorem run_binOp_str {P : Program} {op : BinOp} {t : TypeId} {x y : ByteArray} {v : CV} (h : cbin op (.str x) (.str y) = some v) :
    ∃ u, (∀ μ, VRc μ v u) ∧ ∀ w, (binOp op t (.string x) (.string y)).run P w = .ok u w := by
  cases op <;> simp only [cbin] at h
  all_goals first
    | (simp at h; done)
    | (split at h
       · simp at h
       · rename_i hs
         simp at h; subst h
         refine ⟨_, fun _ => rfl, fun _ => ?_⟩
         simp only [binOp, Op.stringOp]
         rw [if_neg (by simpa using hs)]
         rfl)
    | (simp at h; subst h
       refine ⟨_, fun _ => rfl, fun _ => ?_⟩
       simp [binOp, Op.stringOp, bytes_beq]; done)

theorem constKind_spec {y : Operand} {k : Nat} (h : constKind y = some k) :
    (k = 0 ∧ y = .const (.pointer none)) ∨ (k = 1 ∧ y = .const (.slice none 0 0)) ∨ (k = 2 ∧ y = .const .nilFunc) ∨ (k = 3 ∧ y = .const .nilIface) := by
  unfold constKind at h
  split at h <;> simp at h <;> subst h <;> simp

theorem nilKind_spec {d : TypeDesc} {k : Nat} (h : nilKind d = some k) :
    (k = 0 ∧ ∃ e, d = .pointer e) ∨ (k = 1 ∧ ∃ e, d = .slice e) ∨ (k = 2 ∧ ∃ a b c, d = .func a b c) ∨ (k = 3 ∧ ∃ m, d = .interface m) := by
  unfold nilKind at h
  split at h <;> simp at h <;> subst h <;> simp

theorem isNil_spec {μ : Mp} {k : Nat} {c : CV} {u : Value} {b : Bool} (h : isNil k c = some b) (hr : VR μ c u) :
    (k = 0 ∧ ∃ a, u = .pointer a ∧ b = a.isNone) ∨ (k = 1 ∧ ∃ a l m, u = .slice a l m ∧ b = a.isNone) ∨
    (k = 2 ∧ ((u = .nilFunc ∧ b = true) ∨ ∃ f a m, u = .func f a m ∧ b = false)) ∨ (k = 3 ∧ ((u = .nilIface ∧ b = true) ∨ ∃ t x, u = .iface t x ∧ b = false)) := by
  unfold isNil at h
  split at h <;> simp at h <;> subst h <;> simp only [VR, VRa, VRc] at hr
  · subst hr; simp
  · subst hr; simp
  · subst hr; simp
  · subst hr; simp
  · obtain ⟨pl, _, rfl⟩ := hr; simp
  · obtain ⟨pl, a, c, _, rfl, _⟩ := hr; simp
  · obtain ⟨vs, rfl, _⟩ := hr; simp
  · obtain ⟨y, rfl, _⟩ := hr; simp

/-- a value held against nil, at either side -/
theorem run_eqNil {P : Program} {μ : Mp} {t : TypeId} {d : TypeDesc} {k : Nat} {c : CV} {u z : Value} {b : Bool} {w : World} (hu : P.underlying t = some d) (hd : nilKind d = some k)
    (h : isNil k c = some b) (hr : VR μ c u) (hz : (k = 0 ∧ z = .pointer none) ∨ (k = 1 ∧ z = .slice none 0 0) ∨ (k = 2 ∧ z = .nilFunc) ∨ (k = 3 ∧ z = .nilIface)) :
    (Op.equal t u z).run P w = .ok b w ∧ (Op.equal t z u).run P w = .ok b w := by
  have hd' := nilKind_spec hd
  have hi := isNil_spec h hr
  have key : ∀ n, (Op.equalIn (n + 1) t u z).run P w = .ok b w ∧ (Op.equalIn (n + 1) t z u).run P w = .ok b w := by
    intro n
    rcases hz with ⟨rfl, rfl⟩ | ⟨rfl, rfl⟩ | ⟨rfl, rfl⟩ | ⟨rfl, rfl⟩ <;> simp [-Bool.exists_bool] at hd' hi
    · obtain ⟨e, rfl⟩ := hd'; obtain ⟨a, rfl, rfl⟩ := hi
      cases a <;> simp [Op.equalIn, run_underlying hu]
    · obtain ⟨e, rfl⟩ := hd'; obtain ⟨a, ⟨l, m, rfl⟩, rfl⟩ := hi
      cases a <;> simp [Op.equalIn, run_underlying hu]
    · obtain ⟨x, y, q, rfl⟩ := hd'
      rcases hi with ⟨rfl, rfl⟩ | ⟨⟨f, a, m, rfl⟩, rfl⟩ <;> simp [Op.equalIn, run_underlying hu]
    · obtain ⟨x, rfl⟩ := hd'
      rcases hi with ⟨rfl, rfl⟩ | ⟨⟨f, a, rfl⟩, rfl⟩ <;> simp [Op.equalIn, run_underlying hu]
  exact key 9999

/-! ### '==' of structs -/

theorem eqCells_append {ks1 : List LK} : ∀ {ks2 : List LK} {xs ys : List CV} {b : Bool}, eqCells (ks1 ++ ks2) xs ys = some b →
    ∃ xs1 xs2 ys1 ys2 b1 b2, xs = xs1 ++ xs2 ∧ ys = ys1 ++ ys2 ∧ xs1.length = ks1.length ∧ eqCells ks1 xs1 ys1 = some b1 ∧ eqCells ks2 xs2 ys2 = some b2 ∧ b = (b1 && b2) := by
  induction ks1 with
  | nil => intro ks2 xs ys b h; exact ⟨[], xs, [], ys, true, b, rfl, rfl, rfl, rfl, h, by simp⟩
  | cons k ks1 ih =>
    intro ks2 xs ys b h
    cases xs with
    | nil => simp [eqCells] at h
    | cons x xs =>
      cases ys with
      | nil => simp [eqCells] at h
      | cons y ys =>
        simp only [List.cons_append, eqCells] at h
        split at h
        · rename_i a c h1 h2
          obtain ⟨xs1, xs2, ys1, ys2, b1, b2, rfl, rfl, hl, e1, e2, e3⟩ := ih h2
          simp at h
          exact ⟨x :: xs1, xs2, y :: ys1, ys2, a && b1, b2, rfl, rfl, by simp [hl], by simp [eqCells, h1, e1], e2, by rw [← h, e3, Bool.and_assoc]⟩
        · simp at h

theorem eqCells_length {ks : List LK} : ∀ {xs ys : List CV} {b : Bool}, eqCells ks xs ys = some b → xs.length = ks.length ∧ ys.length = ks.length := by
  induction ks with
  | nil => intro xs ys b h; cases xs <;> cases ys <;> simp [eqCells] at h ⊢
  | cons k ks ih =>
    intro xs ys b h
    cases xs <;> cases ys <;> simp only [eqCells] at h <;> try (simp at h; done)
    split at h
    · rename_i h2; have := ih h2; simp [this]
    · simp at h

/-- the value of a type out of its cells -/
def pk (P : Program) (t : TypeId) (vs : List Value) : Value :=
  match P.underlying t with
  | some (.struct _) => .agg vs.toArray
  | _ => vs.headD undef

theorem run_part_pk {P : Program} {t : TypeId} {pre vs post : List Value} {w : World} (hl : P.cellsOf t = vs.length)
    (hu : (∃ fs, P.underlying t = some (.struct fs)) ∨ ((∃ k, P.underlying t = some (.int k)) ∨ P.underlying t = some .bool ∨ P.underlying t = some .string) ∧ vs.length = 1) :
    (part t (pre ++ vs ++ post).toArray pre.length).run P w = .ok (pk P t vs) w := by
  rcases hu with ⟨fs, hu⟩ | ⟨hu, h1⟩
  · obtain ⟨i, hi⟩ := info_of_underlying hu
    have hs : i.size = vs.length := by rw [← hl]; simp [Program.cellsOf, hi]
    simp [part, isAgg, run_underlying hu, sizeOf, run_typeInfo w hi, pk, hu, hs]
  · obtain ⟨v, rfl⟩ : ∃ v, vs = [v] := by
      cases vs with
      | nil => simp at h1
      | cons v vs => cases vs with
        | nil => exact ⟨v, rfl⟩
        | cons => simp at h1
    have hp : pk P t [v] = v := by rcases hu with ⟨k, hu⟩ | hu | hu <;> simp [pk, hu]
    rcases hu with ⟨k, hu⟩ | hu | hu <;> simp [part, isAgg, run_underlying hu, hp]

theorem flat_kind {P : Program} {d : Nat} {t : TypeId} {ks : List LK} (h : flatOK P d t = some ks) :
    (∃ fs, P.underlying t = some (.struct fs)) ∨ ((∃ k, P.underlying t = some (.int k)) ∨ P.underlying t = some .bool ∨ P.underlying t = some .string) ∧ ks.length = 1 := by
  cases d with
  | zero => simp [flatOK] at h
  | succ d =>
    simp only [flatOK] at h
    split at h
    · rename_i k hu; split at h <;> simp at h; subst h; exact .inr ⟨.inl ⟨k, hu⟩, rfl⟩
    · rename_i hu; split at h <;> simp at h; subst h; exact .inr ⟨.inr (.inl hu), rfl⟩
    · rename_i hu; split at h <;> simp at h; subst h; exact .inr ⟨.inr (.inr hu), rfl⟩
    · rename_i fs hu; exact .inl ⟨fs, hu⟩
    · simp at h

theorem VL.split {μ : Mp} : ∀ {xs1 xs2 : List CV} {vs : List Value}, VL μ (xs1 ++ xs2) vs → ∃ v1 v2, vs = v1 ++ v2 ∧ VL μ xs1 v1 ∧ VL μ xs2 v2
  | [], _, vs, h => ⟨[], vs, rfl, trivial, h⟩
  | _ :: xs1, _, v :: vs, ⟨h, k⟩ => by
    obtain ⟨v1, v2, rfl, h1, h2⟩ := VL.split (xs1 := xs1) k
    exact ⟨v :: v1, v2, rfl, ⟨h, h1⟩, h2⟩

theorem eq1_run {P : Program} {μ : Mp} {t : TypeId} {k : LK} {x y : CV} {v u : Value} {b : Bool} {w : World} {d : Nat}
    (hu : (k = .int ∧ ∃ k, P.underlying t = some (.int k)) ∨ (k = .bool ∧ P.underlying t = some .bool) ∨ (k = .str ∧ P.underlying t = some .string))
    (hx : VRc μ x v) (hy : VRc μ y u) (h : CV.eq1 k x y = some b) : (Op.equalIn (d + 1) t v u).run P w = .ok b w := by
  rcases hu with ⟨rfl, k, hu⟩ | ⟨rfl, hu⟩ | ⟨rfl, hu⟩
  · cases x <;> cases y <;> simp [CV.eq1] at h
    obtain ⟨rfl, rfl⟩ := h
    simp only [VRc] at hx hy
    subst hx hy
    rw [run_equalIn_int w d t _ _ _ _ hu, decide_eq_beq]
  · cases x <;> cases y <;> simp [CV.eq1] at h
    subst h
    simp only [VRc] at hx hy
    subst hx hy
    rw [run_equalIn_bool' w d t _ _ hu]
  · cases x <;> cases y <;> simp [CV.eq1] at h
    subst h
    simp only [VRc] at hx hy
    subst hx hy
    rw [run_equalIn_string w d t _ _ hu, bytes_beq]

theorem eq_leaf {P : Program} {μ : Mp} {t : TypeId} {k : LK} {xs ys : List CV} {vx vy : List Value} {b : Bool} {w : World} {d : Nat}
    (hu : (k = .int ∧ ∃ k, P.underlying t = some (.int k)) ∨ (k = .bool ∧ P.underlying t = some .bool) ∨ (k = .str ∧ P.underlying t = some .string))
    (hx : VL μ xs vx) (hy : VL μ ys vy) (he : eqCells [k] xs ys = some b) : (Op.equalIn (d + 1) t (pk P t vx) (pk P t vy)).run P w = .ok b w := by
  have hl := eqCells_length he
  obtain ⟨x, rfl⟩ : ∃ x, xs = [x] := List.length_eq_one_iff.1 hl.1
  obtain ⟨y, rfl⟩ : ∃ x, ys = [x] := List.length_eq_one_iff.1 hl.2
  obtain ⟨v, rfl⟩ : ∃ x, vx = [x] := List.length_eq_one_iff.1 (hx.length ▸ rfl)
  obtain ⟨u, rfl⟩ : ∃ x, vy = [x] := List.length_eq_one_iff.1 (hy.length ▸ rfl)
  have hp : ∀ z, pk P t [z] = z := by
    intro z
    rcases hu with ⟨_, k, hu⟩ | ⟨_, hu⟩ | ⟨_, hu⟩ <;> simp [pk, hu]
  rw [hp, hp]
  refine eq1_run hu hx.1 hy.1 ?_
  simp only [eqCells] at he
  split at he
  · rename_i a c h1 h2
    simp at he h2
    subst h2
    simpa [h1] using he
  · simp at he

theorem flat_fields {P : Program} {μ : Mp} {d : Nat} (ih : ∀ (t : TypeId) (ks : List LK), flatOK P d t = some ks → ∀ (xs ys : List CV) (vx vy : List Value) (b : Bool),
    VL μ xs vx → VL μ ys vy → eqCells ks xs ys = some b → ∀ w, (Op.equalIn d t (pk P t vx) (pk P t vy)).run P w = .ok b w) :
    ∀ (fs : List Field) (off : Nat) (ks : List LK), flatOK.flatFields P (flatOK P d) fs off = some ks → ∀ (px py : List Value) (xs ys : List CV) (vx vy : List Value) (b : Bool),
      px.length = off → py.length = off → VL μ xs vx → VL μ ys vy → eqCells ks xs ys = some b → ∀ w, (Op.eqFields d (px ++ vx).toArray (py ++ vy).toArray fs).run P w = .ok b w := by
  intro fs
  induction fs with
  | nil =>
    intro off ks h px py xs ys vx vy b _ _ _ _ he w
    simp [flatOK.flatFields] at h
    subst h
    cases xs <;> cases ys <;> simp [eqCells] at he
    subst he
    simp [Op.eqFields]
  | cons f fs ihf =>
    intro off ks h px py xs ys vx vy b hpx hpy hx hy he w
    simp only [flatOK.flatFields] at h
    split at h
    · rename_i hn
      split at h
      · rename_i ks1 hf
        split at h
        · rename_i hc
          simp only [Option.map_eq_some_iff] at h
          obtain ⟨ks2, h2, rfl⟩ := h
          obtain ⟨xs1, xs2, ys1, ys2, b1, b2, rfl, rfl, hl, e1, e2, rfl⟩ := eqCells_append he
          obtain ⟨vx1, vx2, rfl, hx1, hx2⟩ := hx.split
          obtain ⟨vy1, vy2, rfl, hy1, hy2⟩ := hy.split
          have hl2 := eqCells_length e1
          have hk := flat_kind hf
          have hkx : (∃ fs, P.underlying f.type = some (.struct fs)) ∨ ((∃ k, P.underlying f.type = some (.int k)) ∨ P.underlying f.type = some .bool ∨ P.underlying f.type = some .string) ∧ vx1.length = 1 := by
            rcases hk with hk | ⟨hk, h1⟩
            · exact .inl hk
            · exact .inr ⟨hk, by rw [← hx1.length]; omega⟩
          have hky : (∃ fs, P.underlying f.type = some (.struct fs)) ∨ ((∃ k, P.underlying f.type = some (.int k)) ∨ P.underlying f.type = some .bool ∨ P.underlying f.type = some .string) ∧ vy1.length = 1 := by
            rcases hk with hk | ⟨hk, h1⟩
            · exact .inl hk
            · exact .inr ⟨hk, by rw [← hy1.length]; omega⟩
          have ha := run_part_pk (P := P) (t := f.type) (pre := px) (vs := vx1) (post := vx2) (w := w) (by rw [← hx1.length]; omega) hkx
          have hb := run_part_pk (P := P) (t := f.type) (pre := py) (vs := vy1) (post := vy2) (w := w) (by rw [← hy1.length]; omega) hky
          have hq := ih f.type ks1 hf xs1 ys1 vx1 vy1 b1 hx1 hy1 e1 w
          have hr := ihf (off + ks1.length) ks2 h2 (px ++ vx1) (py ++ vy1) xs2 ys2 vx2 vy2 b2 (by simp [hpx, ← hx1.length, hl]) (by simp [hpy, ← hy1.length, hl2]) hx2 hy2 e2 w
          rw [hpx, ← hn.2] at ha
          rw [hpy, ← hn.2] at hb
          rw [Op.eqFields, if_pos hn.1]
          simp only [List.append_assoc] at ha hb hr
          simp only [Sem.run_bind, ha, hb, hq, Result.andThen_ok]
          cases b1
          · simp
          · simpa using hr
        · simp at h
      · simp at h
    · simp at h

theorem flat_eq {P : Program} {μ : Mp} : ∀ (d : Nat) (t : TypeId) (ks : List LK), flatOK P d t = some ks → ∀ (xs ys : List CV) (vx vy : List Value) (b : Bool),
    VL μ xs vx → VL μ ys vy → eqCells ks xs ys = some b → ∀ w, (Op.equalIn d t (pk P t vx) (pk P t vy)).run P w = .ok b w := by
  intro d
  induction d with
  | zero => intro t ks h; simp [flatOK] at h
  | succ d ih =>
    intro t ks h xs ys vx vy b hx hy he w
    simp only [flatOK] at h
    split at h
    · rename_i k hu; split at h <;> simp at h; subst h; exact eq_leaf (.inl ⟨rfl, k, hu⟩) hx hy he
    · rename_i hu; split at h <;> simp at h; subst h; exact eq_leaf (.inr (.inl ⟨rfl, hu⟩)) hx hy he
    · rename_i hu; split at h <;> simp at h; subst h; exact eq_leaf (.inr (.inr ⟨rfl, hu⟩)) hx hy he
    · rename_i fs hu
      split at h
      · simp at h
      · rename_i hs
        have hf : P.fieldsOf t = fs := by simp [Program.fieldsOf, hu]
        have := flat_fields ih fs.toList 0 ks h [] [] xs ys vx vy b rfl rfl hx hy he w
        simp only [pk, hu]
        rw [run_equalIn_struct w d t _ _ (by rw [hf]; exact hu) (by simpa using hs), hf]
        simpa using this
    · simp at h

end Go.Cn
