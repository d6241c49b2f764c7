/- Equations for walking by simp. -/
import Derived.Test.YtlmlpgmpdaepkaaDoorCnDen
set_option linter.unusedSimpArgs false
set_option linter.unusedVariables false
set_option linter.unusedSectionVars false
namespace Go.Cn

section
variable {P : Program} {hk : Hook} {e : Env} {h : Heap}

theorem ev_t {n : Nat} : (Opd.t n).ev e = e n := rfl
theorem ev_k {c : CV} : (Opd.k c).ev e = c := rfl
theorem put_some {d t : Nat} {v : CV} : e.put (some d) v t = if d = t then v else e t := by simp [Env.put]
theorem put_none {v : CV} : e.put none v = e := by funext t; simp [Env.put]
theorem init_at {args : List CV} {t : Nat} : initEnv args t = (args[t]?).getD .undef := rfl

/-- a plain operation: no look at what it meets -/
noncomputable def dStep (P : Program) (hk : Hook) (d : Option Nat) (r : Option (CV × Heap)) (l : List CO) (e : Env) : Option (Env × Heap) :=
  match r with
  | some (v, h') => dOps P hk l (e.put d v) h'
  | none => none

theorem step_some {d : Option Nat} {v : CV} {h' : Heap} {l : List CO} : dStep P hk d (some (v, h')) l e = dOps P hk l (e.put d v) h' := rfl

open Classical in
theorem dOps_plain {d : Option Nat} {c : COp} {l : List CO} : dOps P hk (⟨d, c, none, false, []⟩ :: l) e h = dStep P hk d (dOp P hk c e h) l e := by
  rw [dOps_cons, if_pos (show wantedC e none = true from rfl)]
  unfold dStep
  cases dOp P hk c e h with
  | none => rfl
  | some r => simp [avoidOK]

open Classical in
theorem dOps_any {o : CO} {l : List CO} (hw : wantedC e o.g = true) (hv : ∀ v h', dOp P hk o.op e h = some (v, h') → avoidOK e o = true ∧ (o.chk = true → h.Ext h')) : dOps P hk (o :: l) e h = dStep P hk o.dst (dOp P hk o.op e h) l e := by
  rw [dOps_cons, if_pos hw]
  unfold dStep
  cases hq : dOp P hk o.op e h with
  | none => rfl
  | some r =>
    obtain ⟨v, h'⟩ := r
    obtain ⟨h1, h2⟩ := hv v h' hq
    simp only
    rw [if_neg]
    rintro (h3 | ⟨h3, h4⟩)
    · rw [h1] at h3; simp at h3
    · exact h4 (h2 h3)

theorem dOps_g {d : Option Nat} {c : COp} {t : Nat} {b : Bool} {l : List CO} : dOps P hk (⟨d, c, some (t, b), false, []⟩ :: l) e h = if isB b (e t) then dStep P hk d (dOp P hk c e h) l e else dOps P hk l (e.put d .undef) h := by
  rw [dOps_cons]
  have hw : wantedC e (some (t, b)) = isB b (e t) := by
    show (match e t with | .bool b' => b' == b | _ => false) = isB b (e t)
    generalize e t = c
    cases c <;> rfl
  rw [hw]
  by_cases hb : isB b (e t) = true
  · rw [if_pos hb, if_pos hb]
    unfold dStep
    cases dOp P hk c e h with
    | none => rfl
    | some r => simp [avoidOK]
  · rw [if_neg hb, if_neg hb]

theorem isB_bool {b c : Bool} : isB b (.bool c) = (c == b) := rfl
theorem isB_undef {b : Bool} : isB b .undef = false := rfl
theorem x_nilck_ptr {x : Opd} {b o : Nat} (hx : x.ev e = .ptr b o) : dOp P hk (.nilck x) e h = some (.ptr b o, h) := by
  rw [dOp_exec (by simp [COp.cls])]; simp only [exec, hx]

theorem wanted_none : wantedC e none = true := rfl
theorem wanted_some {t : Nat} {b : Bool} : wantedC e (some (t, b)) = isB b (e t) := by
  show (match e t with | .bool b' => b' == b | _ => false) = isB b (e t)
  generalize e t = c
  cases c <;> rfl

theorem dCode_seq' {a b : CC} : dCode P hk (.seq a b) e h = (match dCode P hk a e h with | some (.normal, e', h') => dCode P hk b e' h' | r => r) := dCode_seq

/-- what follows a code -/
noncomputable def andThen (P : Program) (hk : Hook) (b : CC) : Option (CX × Env × Heap) → Option (CX × Env × Heap)
  | some (.normal, e', h') => dCode P hk b e' h'
  | r => r
theorem seq_eq {a b : CC} : dCode P hk (.seq a b) e h = andThen P hk b (dCode P hk a e h) := by rw [dCode_seq]; unfold andThen; rfl
theorem then_normal {b : CC} {e' : Env} {h' : Heap} : andThen P hk b (some (.normal, e', h')) = dCode P hk b e' h' := rfl
theorem then_ret {b : CC} {e' : Env} {h' : Heap} : andThen P hk b (some (.ret, e', h')) = some (.ret, e', h') := rfl
theorem then_exit {b : CC} {e' : Env} {h' : Heap} {id : Nat} : andThen P hk b (some (.exit id, e', h')) = some (.exit id, e', h') := rfl

def inBlk (id : Nat) : Option (CX × Env × Heap) → Option (CX × Env × Heap)
  | some (.exit j, e', h') => if j = id then some (.normal, e', h') else some (.exit j, e', h')
  | r => r
theorem block_eq {id : Nat} {c : CC} : dCode P hk (.block id c) e h = inBlk id (dCode P hk c e h) := by rw [dCode_block]; unfold inBlk; rfl
theorem blk_normal {id : Nat} {e' : Env} {h' : Heap} : inBlk id (some (.normal, e', h')) = some (.normal, e', h') := rfl
theorem blk_ret {id : Nat} {e' : Env} {h' : Heap} : inBlk id (some (.ret, e', h')) = some (.ret, e', h') := rfl
theorem blk_exit {id j : Nat} {e' : Env} {h' : Heap} : inBlk id (some (.exit j, e', h')) = if j = id then some (.normal, e', h') else some (.exit j, e', h') := rfl

noncomputable def condOf (P : Program) (hk : Hook) (a b : CC) (e : Env) (h : Heap) : CV → Option (CX × Env × Heap)
  | .bool t => dCode P hk (if t then a else b) e h
  | _ => none
theorem cond_eq {c : Opd} {a b : CC} : dCode P hk (.cond c a b) e h = condOf P hk a b e h (c.ev e) := by rw [dCode_cond]; unfold condOf; rfl
theorem cond_bool {a b : CC} {t : Bool} : condOf P hk a b e h (.bool t) = if t then dCode P hk a e h else dCode P hk b e h := by cases t <;> rfl

def opsEnd : Option (Env × Heap) → Option (CX × Env × Heap)
  | some (e', h') => some (.normal, e', h')
  | none => none
theorem ops_eq {l : List CO} : dCode P hk (.ops l) e h = opsEnd (dOps P hk l e h) := by
  rw [dCode_ops]
  cases dOps P hk l e h with
  | none => rfl
  | some r => rfl
theorem opsEnd_some {e' : Env} {h' : Heap} : opsEnd (some (e', h')) = some (.normal, e', h') := rfl

theorem fin_ret {res : List (Nat × Option (Option Nat))} : fin res (some (.ret, e, h)) = ((res.mapM (resOf e h)).bind resVal).map fun v => (v, h) := rfl
theorem fin_normal {res : List (Nat × Option (Option Nat))} : fin res (some (.normal, e, h)) = ((res.mapM (resOf e h)).bind resVal).map fun v => (v, h) := rfl

/-- a loop's next round -/
noncomputable def loopNext (P : Program) (hk : Hook) (c : CC) : Option (CX × Env × Heap) → Option (CX × Env × Heap)
  | some (.normal, e', h') => dCode P hk (.loop c) e' h'
  | r => r
theorem loop_step {c : CC} : dCode P hk (.loop c) e h = loopNext P hk c (dCode P hk c e h) := by rw [dCode_loop]; unfold loopNext; rfl
theorem next_normal {c : CC} {e' : Env} {h' : Heap} : loopNext P hk c (some (.normal, e', h')) = dCode P hk (.loop c) e' h' := rfl
theorem next_exit {c : CC} {e' : Env} {h' : Heap} {id : Nat} : loopNext P hk c (some (.exit id, e', h')) = some (.exit id, e', h') := rfl
theorem next_ret {c : CC} {e' : Env} {h' : Heap} : loopNext P hk c (some (.ret, e', h')) = some (.ret, e', h') := rfl

/-! ### plain operations, one by one: each made a function of the operands' values -/

def rBool (f : Bool → Option (CV × Heap)) : CV → Option (CV × Heap)
  | .bool b => f b
  | _ => none
def rPtr (f : Nat → Nat → Option (CV × Heap)) : CV → Option (CV × Heap)
  | .ptr b o => f b o
  | _ => none
def rInt (f : IntKind → Int → Option (CV × Heap)) : CV → Option (CV × Heap)
  | .int k n => f k n
  | _ => none
def rStr (f : ByteArray → Option (CV × Heap)) : CV → Option (CV × Heap)
  | .str s => f s
  | _ => none
def rAgg (f : List CV → Option (CV × Heap)) : CV → Option (CV × Heap)
  | .agg s => f s
  | _ => none
theorem rBool_eq {f : Bool → Option (CV × Heap)} {b : Bool} : rBool f (.bool b) = f b := rfl
theorem rPtr_eq {f : Nat → Nat → Option (CV × Heap)} {b o : Nat} : rPtr f (.ptr b o) = f b o := rfl
theorem rInt_eq {f : IntKind → Int → Option (CV × Heap)} {k : IntKind} {n : Int} : rInt f (.int k n) = f k n := rfl
theorem rStr_eq {f : ByteArray → Option (CV × Heap)} {s : ByteArray} : rStr f (.str s) = f s := rfl
theorem rAgg_eq {f : List CV → Option (CV × Heap)} {s : List CV} : rAgg f (.agg s) = f s := rfl

/-- one cell -/
def one1 (h : Heap) : Option (List CV) → Option (CV × Heap)
  | some [c] => some (c, h)
  | _ => none
theorem one1_eq {c : CV} : one1 h (some [c]) = some (c, h) := rfl
def many (h : Heap) : Option (List CV) → Option (CV × Heap)
  | some cs => some (.agg cs, h)
  | none => none
theorem many_eq {cs : List CV} : many h (some cs) = some (.agg cs, h) := rfl
def stored : Option Heap → Option (CV × Heap)
  | some h' => some (.undef, h')
  | none => none
theorem stored_eq {h' : Heap} : stored (some h') = some (.undef, h') := rfl
/-- a value alone -/
def val1 (h : Heap) : Option CV → Option (CV × Heap)
  | some c => some (c, h)
  | none => none
theorem val1_eq {c : CV} : val1 h (some c) = some (c, h) := rfl
def valB (h : Heap) (neq : Bool) : Option Bool → Option (CV × Heap)
  | some b => some (.bool (if neq then !b else b), h)
  | none => none
theorem valB_eq {neq b : Bool} : valB h neq (some b) = some (.bool (if neq then !b else b), h) := rfl

theorem x_mv {x : Opd} : dOp P hk (.mv x) e h = some (x.ev e, h) := dOp_exec (by simp [COp.cls])
theorem x_pick {c a b : Opd} : dOp P hk (.pick c a b) e h = rBool (fun t => some (if t then a.ev e else b.ev e, h)) (c.ev e) := by
  rw [dOp_exec (by simp [COp.cls])]; simp only [exec, rBool]
  generalize c.ev e = a
  cases a <;> first | rfl | (rfl)
theorem x_alloc {t : TypeId} {zs : List CV} : dOp P hk (.alloc t zs) e h = some (.ptr h.length 0, h ++ [{ cells := zs, st := .live, ty := some t }]) := dOp_exec (by simp [COp.cls])
theorem x_box {x : Opd} : dOp P hk (.box x) e h = if (x.ev e).ok then some (.ptr h.length 0, h ++ [{ cells := (x.ev e).cells, st := .live }]) else none := dOp_exec (by simp [COp.cls])
theorem x_load {x : Opd} : dOp P hk (.load x) e h = rPtr (fun b o => one1 h (h.ld b o 1)) (x.ev e) := by
  rw [dOp_exec (by simp [COp.cls])]; simp only [exec, rPtr, one1]
  generalize x.ev e = a
  cases a <;> first | rfl | (simp only; generalize Heap.ld _ _ _ _ = q; split <;> rfl)
theorem x_loada {n : Nat} {x : Opd} : dOp P hk (.loada n x) e h = rPtr (fun b o => many h (h.ld b o n)) (x.ev e) := by
  rw [dOp_exec (by simp [COp.cls])]; simp only [exec, rPtr, many]
  generalize x.ev e = a
  cases a <;> first | rfl | (simp only; generalize Heap.ld _ _ _ _ = q; cases q <;> rfl)
theorem x_store {n : Nat} {a x : Opd} : dOp P hk (.store n a x) e h = rPtr (fun b o => if (x.ev e).cells.length = n ∧ (x.ev e).ok then stored (h.stc b o (x.ev e).cells) else none) (a.ev e) := by
  rw [dOp_exec (by simp [COp.cls])]; simp only [exec, rPtr, stored]
  generalize a.ev e = a
  cases a <;> first | rfl | (simp only; split <;> first | rfl | (generalize Heap.stc _ _ _ _ = q; cases q <;> rfl))
theorem x_bin {op : BinOp} {x y : Opd} : dOp P hk (.bin op x y) e h = val1 h (cbin op (x.ev e) (y.ev e)) := by
  rw [dOp_exec (by simp [COp.cls])]; simp only [exec, val1]
  generalize cbin _ _ _ = q; cases q <;> rfl
theorem x_un {op : UnOp} {x : Opd} : dOp P hk (.un op x) e h = val1 h (cun op (x.ev e)) := by
  rw [dOp_exec (by simp [COp.cls])]; simp only [exec, val1]
  generalize cun _ _ = q; cases q <;> rfl
theorem x_eqn {k : Nat} {neq : Bool} {x : Opd} : dOp P hk (.eqn k neq x) e h = valB h neq (isNil k (x.ev e)) := by
  rw [dOp_exec (by simp [COp.cls])]; simp only [exec, valB]
  generalize isNil _ _ = q; cases q <;> rfl
theorem x_eqb {neq : Bool} {x y : Opd} : dOp P hk (.eqb neq x y) e h = rBool (fun a => rBool (fun b => some (.bool (if neq then !(a == b) else a == b), h)) (y.ev e)) (x.ev e) := by
  rw [dOp_exec (by simp [COp.cls])]; simp only [exec, rBool]
  generalize x.ev e = a; generalize y.ev e = b
  cases a <;> cases b <;> rfl
theorem x_eqa {ks : List LK} {neq : Bool} {x y : Opd} : dOp P hk (.eqa ks neq x y) e h = rAgg (fun a => rAgg (fun b => valB h neq (eqCells ks a b)) (y.ev e)) (x.ev e) := by
  rw [dOp_exec (by simp [COp.cls])]; simp only [exec, rAgg, valB]
  generalize x.ev e = a; generalize y.ev e = b
  cases a <;> cases b <;> try rfl
  simp only
  generalize eqCells _ _ _ = q; cases q <;> rfl
theorem x_nilck {x : Opd} : dOp P hk (.nilck x) e h = match x.ev e with | .ptr b off => some (.ptr b off, h) | .fn f cs => some (.fn f cs, h) | _ => none := dOp_exec (by simp [COp.cls])
theorem x_build {zs : List CV} {ps : List (Nat × Nat × Opd)} : dOp P hk (.build zs ps) e h = many h (fillC zs (ps.map fun p => (p.1, p.2.1, p.2.2.ev e))) := by
  rw [dOp_exec (by simp [COp.cls])]; simp only [exec, many]
  generalize fillC _ _ = q; cases q <;> rfl
def litOf (h : Heap) (k len : Nat) : Option (List CV) → Option (CV × Heap)
  | some cs => some (.slc h.length 0 len len k true, h ++ [{ cells := cs, st := .live }])
  | none => none
theorem litOf_eq {k len : Nat} {cs : List CV} : litOf h k len (some cs) = some (.slc h.length 0 len len k true, h ++ [{ cells := cs, st := .live }]) := rfl
theorem x_lit {k len : Nat} {zs : List CV} {ps : List (Nat × Nat × Opd)} : dOp P hk (.lit k len zs ps) e h = litOf h k len (fillC zs (ps.map fun p => (p.1, p.2.1, p.2.2.ev e))) := by
  rw [dOp_exec (by simp [COp.cls])]; simp only [exec, litOf]
  generalize fillC _ _ = q; cases q <;> rfl
theorem x_toint {k : IntKind} {x : Opd} : dOp P hk (.toint k x) e h = rInt (fun _ n => some (.int k (k.wrap n), h)) (x.ev e) := by
  rw [dOp_exec (by simp [COp.cls])]; simp only [exec, rInt]
  generalize x.ev e = a
  cases a <;> first | rfl | (simp only; split <;> rfl)
theorem x_tobytes {x : Opd} : dOp P hk (.tobytes x) e h = rStr (fun s => if s.size ≤ capB then some (.slc h.length 0 s.size s.size 1 false, h ++ [{ cells := cellsOfStr s, st := .live }]) else none) (x.ev e) := by
  rw [dOp_exec (by simp [COp.cls])]; simp only [exec, rStr]
  generalize x.ev e = a
  cases a <;> first | rfl | (simp only; split <;> rfl)
def bstrOf (h : Heap) : Option (List CV × Nat) → Option (CV × Heap)
  | some (cs, _) => (bytesOf cs).map fun s => (.str s, h)
  | none => none
theorem x_bstr {x : Opd} : dOp P hk (.bstr x) e h = bstrOf h (srcCells h 1 false (x.ev e)) := by
  rw [dOp_exec (by simp [COp.cls])]; simp only [exec, bstrOf]
  generalize srcCells _ _ _ _ = q; rcases q with _ | ⟨a, b⟩ <;> rfl
def rstrOf (h : Heap) : Option (List CV × Nat) → Option (CV × Heap)
  | some (cs, _) => (runesOf cs).map fun s => (.str s, h)
  | none => none
theorem x_rstr {x : Opd} : dOp P hk (.rstr x) e h = rstrOf h (srcCells h 1 false (x.ev e)) := by
  rw [dOp_exec (by simp [COp.cls])]; simp only [exec, rstrOf]
  generalize srcCells _ _ _ _ = q; rcases q with _ | ⟨a, b⟩ <;> rfl
theorem x_sstr {x : Opd} : dOp P hk (.sstr x) e h = rStr (fun s => some (.str s, h)) (x.ev e) := by
  rw [dOp_exec (by simp [COp.cls])]; simp only [exec, rStr]
  generalize x.ev e = a
  cases a <;> first | rfl | (simp only; split <;> rfl)
theorem x_istr {x : Opd} : dOp P hk (.istr x) e h = rInt (fun _ n => some (.str (Utf8.encode n), h)) (x.ev e) := by
  rw [dOp_exec (by simp [COp.cls])]; simp only [exec, rInt]
  generalize x.ev e = a
  cases a <;> first | rfl | (simp only; split <;> rfl)
theorem x_mkif {t : TypeId} {x : Opd} : dOp P hk (.mkif t x) e h = if (x.ev e).one then some (.ifc t (x.ev e), h) else none := dOp_exec (by simp [COp.cls])
theorem x_mark {x : Opd} : dOp P hk (.mark x) e h = exec e h (.mark x) := dOp_exec (by simp [COp.cls])
theorem x_mkfn {f : FuncId} {caps : List Opd} : dOp P hk (.mkfn f caps) e h = exec e h (.mkfn f caps) := dOp_exec (by simp [COp.cls])
theorem x_make {k b : Nat} {z : List CV} {l c : Opd} : dOp P hk (.make k b z l c) e h = exec e h (.make k b z l c) := dOp_exec (by simp [COp.cls])
theorem x_faddr {off : Nat} {x : Opd} : dOp P hk (.faddr off x) e h = rPtr (fun b o => some (.ptr b (o + off), h)) (x.ev e) := by
  rw [dOp_exec (by simp [COp.cls])]; simp only [exec, rPtr]
  generalize x.ev e = a
  cases a <;> first | rfl | (simp only; split <;> rfl)
theorem x_fld1 {off : Nat} {x : Opd} : dOp P hk (.fld off none x) e h = rAgg (fun cs => val1 h cs[off]?) (x.ev e) := by
  rw [dOp_exec (by simp [COp.cls])]; simp only [exec, rAgg, val1]
  generalize x.ev e = a
  cases a <;> first | rfl | (simp only; split <;> rfl)
theorem x_fldn {off n : Nat} {x : Opd} : dOp P hk (.fld off (some n) x) e h = rAgg (fun cs => if off + n ≤ cs.length then some (.agg ((cs.drop off).take n), h) else none) (x.ev e) := by
  rw [dOp_exec (by simp [COp.cls])]; simp only [exec, rAgg]
  generalize x.ev e = a
  cases a <;> first | rfl | (simp only; split <;> rfl)
def iaddrOf (h : Heap) (k : Nat) : CV → CV → Option (CV × Heap)
  | .slc b off len _ k' _, .int _ i => if k' = k ∧ 0 ≤ i ∧ i < len then some (.ptr b (off + i.toNat * k), h) else none
  | _, _ => none
theorem iaddrOf_eq {k b off len cap k' : Nat} {ex : Bool} {ik : IntKind} {i : Int} : iaddrOf h k (.slc b off len cap k' ex) (.int ik i) = if k' = k ∧ 0 ≤ i ∧ i < len then some (.ptr b (off + i.toNat * k), h) else none := rfl
theorem x_iaddr {k : Nat} {x i : Opd} : dOp P hk (.iaddr k x i) e h = iaddrOf h k (x.ev e) (i.ev e) := by
  rw [dOp_exec (by simp [COp.cls])]; simp only [exec, iaddrOf]
  generalize x.ev e = a; generalize i.ev e = b
  cases a <;> cases b <;> rfl
def idxOf (h : Heap) (s : ByteArray) (i : Int) : Option (CV × Heap) := match (if 0 ≤ i then s.data.toList[i.toNat]? else none) with
  | some b => some (.int .u8 b.toNat, h)
  | none => none
theorem x_idx {x i : Opd} : dOp P hk (.idx x i) e h = rStr (fun s => rInt (fun _ i => idxOf h s i) (i.ev e)) (x.ev e) := by
  rw [dOp_exec (by simp [COp.cls])]; simp only [exec, rStr, rInt, idxOf]
  generalize x.ev e = a; generalize i.ev e = b
  cases a <;> cases b <;> rfl
def rTup (f : List CV → Option (CV × Heap)) : CV → Option (CV × Heap)
  | .tup s => f s
  | _ => none
theorem rTup_eq {f : List CV → Option (CV × Heap)} {s : List CV} : rTup f (.tup s) = f s := rfl
theorem x_ext {x : Opd} {i : Nat} : dOp P hk (.ext x i) e h = rTup (fun vs => val1 h vs[i]?) (x.ev e) := by
  rw [dOp_exec (by simp [COp.cls])]; simp only [exec, rTup, val1]
  generalize x.ev e = a
  cases a <;> first | rfl | (simp only; split <;> rfl)
theorem x_slen {x : Opd} : dOp P hk (.slen x) e h = rStr (fun s => some (.int .i64 s.size, h)) (x.ev e) := by
  rw [dOp_exec (by simp [COp.cls])]; simp only [exec, rStr]
  generalize x.ev e = a
  cases a <;> first | rfl | (simp only; split <;> rfl)
def lenOf (h : Heap) : CV → Option (CV × Heap)
  | .slc _ _ len _ _ _ => some (.int .i64 len, h)
  | .nils => some (.int .i64 0, h)
  | _ => none
theorem lenOf_slc {b off len cap k : Nat} {ex : Bool} : lenOf h (.slc b off len cap k ex) = some (.int .i64 len, h) := rfl
theorem lenOf_nils : lenOf h .nils = some (.int .i64 0, h) := rfl
theorem x_len {x : Opd} : dOp P hk (.len x) e h = lenOf h (x.ev e) := by
  rw [dOp_exec (by simp [COp.cls])]; simp only [exec, lenOf]
  generalize x.ev e = a
  cases a <;> first | rfl | (simp only; split <;> rfl)
theorem x_app {t : TypeId} {k b : Nat} {st : Bool} {s x : Opd} : dOp P hk (.app t k b st s x) e h = append h t k b st (s.ev e) (x.ev e) := dOp_exec (by simp [COp.cls])
theorem x_min2 {x y : Opd} : dOp P hk (.min2 x y) e h = rInt (fun k a => rInt (fun _ b => some (.int k (if b < a then b else a), h)) (y.ev e)) (x.ev e) := by
  rw [dOp_exec (by simp [COp.cls])]; simp only [exec, rInt]
  generalize x.ev e = a; generalize y.ev e = b
  cases a <;> cases b <;> rfl
theorem x_max2 {x y : Opd} : dOp P hk (.max2 x y) e h = rInt (fun k a => rInt (fun _ b => some (.int k (if b > a then b else a), h)) (y.ev e)) (x.ev e) := by
  rw [dOp_exec (by simp [COp.cls])]; simp only [exec, rInt]
  generalize x.ev e = a; generalize y.ev e = b
  cases a <;> cases b <;> rfl
theorem x_slice {k : Nat} {x : Opd} {lo hi mx : Option Opd} : dOp P hk (.slice k x lo hi mx) e h = exec e h (.slice k x lo hi mx) := dOp_exec (by simp [COp.cls])
theorem x_sslice {x : Opd} {lo hi : Option Opd} : dOp P hk (.sslice x lo hi) e h = exec e h (.sslice x lo hi) := dOp_exec (by simp [COp.cls])
theorem x_range {x : Opd} : dOp P hk (.range x) e h = exec e h (.range x) := dOp_exec (by simp [COp.cls])
theorem x_next {x : Opd} : dOp P hk (.next x) e h = exec e h (.next x) := dOp_exec (by simp [COp.cls])

end
end Go.Cn
