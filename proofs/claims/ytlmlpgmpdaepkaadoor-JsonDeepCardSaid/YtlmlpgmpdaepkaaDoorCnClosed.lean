/- Closed runs: what is worked out once, in an empty heap, holds in any. -/
import Derived.Test.YtlmlpgmpdaepkaaDoorCnHook
set_option linter.unusedSimpArgs false
set_option linter.unusedVariables false
set_option linter.unusedSectionVars false
namespace Go.Cn
open Go.RowKit

/-! ### values without a pointer -/

mutual
def CV.plain : CV → Bool
  | .ptr .. | .slc .. => false
  | .fn _ caps => caps.isEmpty
  | .ifc _ x => x.plain
  | .agg cs => plainL cs
  | .tup cs => plainL cs
  | _ => true
def plainL : List CV → Bool
  | [] => true
  | c :: cs => c.plain && plainL cs
end

theorem vrc_plain {μ μ' : Mp} : ∀ {c : CV} {v : Value}, c.plain = true → VRc μ c v → VRc μ' c v
  | .int .., _, _, h | .bool _, _, _, h | .str _, _, _, h | .nilp, _, _, h | .nils, _, _, h | .nilf, _, _, h | .nili, _, _, h => h
  | .ptr .., _, hp, _ => by simp [CV.plain] at hp
  | .slc .., _, hp, _ => by simp [CV.plain] at hp
  | .fn f caps, _, hp, ⟨vs, e, hs, h⟩ => by
    simp [CV.plain] at hp
    subst hp
    exact ⟨vs, e, hs, fun i c hc => by simp at hc⟩
  | .ifc t x, _, hp, ⟨y, e, h⟩ => ⟨y, e, vrc_plain (by simpa [CV.plain] using hp) h⟩

theorem vl_plain {μ μ' : Mp} : ∀ {cs : List CV} {vs : List Value}, plainL cs = true → VL μ cs vs → VL μ' cs vs
  | [], [], _, _ => trivial
  | c :: cs, _ :: _, hp, ⟨h, k⟩ => by
    simp only [plainL, Bool.and_eq_true] at hp
    exact ⟨vrc_plain hp.1 h, vl_plain hp.2 k⟩

theorem vra_plain {μ μ' : Mp} {c : CV} {v : Value} (hp : c.plain = true) (h : VRa μ c v) : VRa μ' c v := by
  cases c
  case agg cs =>
    obtain ⟨vs, e, k⟩ := h
    simp only [CV.plain] at hp
    exact ⟨vs, e, vl_plain hp k⟩
  all_goals exact vrc_plain (μ := μ) hp h

theorem vla_plain {μ μ' : Mp} : ∀ {cs : List CV} {vs : List Value}, plainL cs = true → VLa μ cs vs → VLa μ' cs vs
  | [], [], _, _ => trivial
  | c :: cs, _ :: _, hp, ⟨h, k⟩ => by
    simp only [plainL, Bool.and_eq_true] at hp
    exact ⟨vra_plain hp.1 h, vla_plain hp.2 k⟩

theorem vr_plain {μ μ' : Mp} {c : CV} {v : Value} (hp : c.plain = true) (h : VR μ c v) : VR μ' c v := by
  cases c
  case tup cs =>
    obtain ⟨vs, e, k⟩ := h
    simp only [CV.plain] at hp
    exact ⟨vs, e, vla_plain hp k⟩
  case undef => exact h
  all_goals (simp only [VR] at h ⊢; exact vra_plain hp h)

theorem callOK_closed {G : Nat → Obj → Prop} {P : Program} {f : FuncId} {args : List CV} {v : CV} {h' h : Heap} (ha : plainL args = true) (hv : v.plain = true) (hok : CallOK G P f args [] v h') : CallOK G P f args h v h := by
  refine callOK_below hok.1 fun μ K w args' hargs hS _ => ?_
  have hargs0 : VLr (fun _ => none) args args' := by
    obtain ⟨l1, l2⟩ := hargs
    refine ⟨l1, fun i c hc => ?_⟩
    obtain ⟨u, hu, hr⟩ := l2 i c hc
    refine ⟨u, hu, vr_plain ?_ hr⟩
    have hm : c ∈ args := List.mem_of_getElem? hc
    clear l1 l2 hc hok
    induction args with
    | nil => simp at hm
    | cons a args ih =>
      simp only [plainL, Bool.and_eq_true] at ha
      rcases List.mem_cons.1 hm with rfl | hm
      · exact ha.1
      · exact ih ha.2 hm
  have hS0 : SimG G (fun _ => none) (fun _ => none) w := ⟨⟨fun b pl hb => by simp at hb, fun b blk hb => by simp at hb, fun b b' blk blk' pl pl' hb => by simp at hb⟩, ⟨hS.held.1, fun b blk pl g o hb => by simp at hb⟩⟩
  refine (hok.2 _ _ w args' hargs0 hS0 (fun b blk _ hb => by simp at hb) (fun b _ _ => rfl)).mono fun e w' ⟨u, he, μ', hu, hst, _⟩ => ⟨u, he, vr_plain hv hu, hst.os, hst.tape, hst.output, hst.size, fun k hk => hst.keep k hk fun b blk pl hb => by simp at hb⟩

/-! ### a run that the kernel can work out -/

mutual
def CV.same : CV → CV → Bool
  | .undef, .undef => true
  | .int k n, .int k' n' => decide (k = k') && decide (n = n')
  | .bool b, .bool b' => decide (b = b')
  | .str s, .str s' => decide (s = s')
  | .ptr b o, .ptr b' o' => decide (b = b') && decide (o = o')
  | .nilp, .nilp => true
  | .slc b o l c k x, .slc b' o' l' c' k' x' => decide (b = b') && decide (o = o') && decide (l = l') && decide (c = c') && decide (k = k') && decide (x = x')
  | .nils, .nils => true
  | .fn f c, .fn f' c' => decide (f = f') && decide (c = c')
  | .nilf, .nilf => true
  | .nili, .nili => true
  | .ifc t x, .ifc t' x' => decide (t = t') && x.same x'
  | .agg cs, .agg cs' => sameL cs cs'
  | .tup cs, .tup cs' => sameL cs cs'
  | _, _ => false
def sameL : List CV → List CV → Bool
  | [], [] => true
  | c :: cs, d :: ds => c.same d && sameL cs ds
  | _, _ => false
end

mutual
theorem same_eq : ∀ {c d : CV}, c.same d = true → c = d
  | .undef, d, h => by cases d <;> simp [CV.same] at h; rfl
  | .int .., d, h => by cases d <;> simp [CV.same] at h; simp [h]
  | .bool _, d, h => by cases d <;> simp [CV.same] at h; simp [h]
  | .str _, d, h => by cases d <;> simp [CV.same] at h; simp [h]
  | .ptr .., d, h => by cases d <;> simp [CV.same] at h; simp [h]
  | .nilp, d, h => by cases d <;> simp [CV.same] at h; rfl
  | .slc .., d, h => by cases d <;> simp [CV.same] at h; simp [h]
  | .nils, d, h => by cases d <;> simp [CV.same] at h; rfl
  | .fn .., d, h => by cases d <;> simp [CV.same] at h; simp [h]
  | .nilf, d, h => by cases d <;> simp [CV.same] at h; rfl
  | .nili, d, h => by cases d <;> simp [CV.same] at h; rfl
  | .ifc _ x, d, h => by
    cases d <;> simp [CV.same] at h
    rw [h.1, same_eq h.2]
  | .agg _, d, h => by
    cases d <;> simp [CV.same] at h
    rw [sameL_eq h]
  | .tup _, d, h => by
    cases d <;> simp [CV.same] at h
    rw [sameL_eq h]
theorem sameL_eq : ∀ {c d : List CV}, sameL c d = true → c = d
  | [], [], _ => rfl
  | c :: cs, d :: ds, h => by
    simp only [sameL, Bool.and_eq_true] at h
    rw [same_eq h.1, sameL_eq h.2]
  | [], _ :: _, h => by simp [sameL] at h
  | _ :: _, [], h => by simp [sameL] at h
end

def Blk.same (a b : Blk) : Bool := sameL a.cells b.cells && decide (a.st = b.st) && decide (a.ty = b.ty) && decide (a.el = b.el)

theorem blk_same {a b : Blk} (h : a.same b = true) : a = b := by
  simp only [Blk.same, Bool.and_eq_true, decide_eq_true_eq] at h
  obtain ⟨⟨⟨h1, h2⟩, h3⟩, h4⟩ := h
  cases a; cases b
  simp at h1 h2 h3 h4
  simp [sameL_eq h1, h2, h3, h4]

def extB : Heap → Heap → Bool
  | [], _ => true
  | a :: h, b :: h' => a.same b && extB h h'
  | _ :: _, [] => false

theorem extB_ext : ∀ {h h' : Heap}, extB h h' = true → h.Ext h'
  | [], h', _ => ⟨h', rfl⟩
  | a :: h, b :: h', hh => by
    simp only [extB, Bool.and_eq_true] at hh
    obtain ⟨x, hx⟩ := extB_ext hh.2
    exact ⟨x, by rw [blk_same hh.1, hx]; rfl⟩
  | _ :: _, [], hh => by simp [extB] at hh

mutual
def kOps (T : FuncId → Option CF) (hk : Hook) : Nat → List CO → Env → Heap → Option (Env × Heap)
  | 0, _, _, _ => none
  | _ + 1, [], e, h => some (e, h)
  | n + 1, o :: r, e, h =>
    if wantedC e o.g then
      match kOp T hk n o.op e h with
      | some (v, h') => if avoidOK e o && (!o.chk || extB h h') then kOps T hk n r (e.put o.dst v) h' else none
      | none => none
    else kOps T hk n r (e.put o.dst .undef) h
def kOp (T : FuncId → Option CF) (hk : Hook) : Nat → COp → Env → Heap → Option (CV × Heap)
  | 0, _, _, _ => none
  | n + 1, c, e, h => match c with
    | .call f args => kCall T hk n f (args.map (Opd.ev e)) h
    | .dcall g args => match g.ev e with
      | .fn f caps => kCall T hk n f (args.map (Opd.ev e) ++ caps.map fun c => .ptr c.1 c.2) h
      | _ => none
    | op => exec e h op
def kCode (T : FuncId → Option CF) (hk : Hook) : Nat → CC → Env → Heap → Option (CX × Env × Heap)
  | 0, _, _, _ => none
  | n + 1, c, e, h => match c with
    | .skip => some (.normal, e, h)
    | .ops l => match kOps T hk n l e h with | some r => some (.normal, r.1, r.2) | none => none
    | .seq a b => match kCode T hk n a e h with
      | some (.normal, e', h') => kCode T hk n b e' h'
      | r => r
    | .cond c a b => match c.ev e with
      | .bool t => kCode T hk n (if t then a else b) e h
      | _ => none
    | .block id c => match kCode T hk n c e h with
      | some (.exit j, e', h') => if j = id then some (.normal, e', h') else some (.exit j, e', h')
      | r => r
    | .loop c => match kCode T hk n c e h with
      | some (.normal, e', h') => kCode T hk n (.loop c) e' h'
      | r => r
    | .exit id => some (.exit id, e, h)
    | .ret => some (.ret, e, h)
def kCall (T : FuncId → Option CF) (hk : Hook) : Nat → FuncId → List CV → Heap → Option (CV × Heap)
  | 0, _, _, _ => none
  | n + 1, f, args, h =>
    match hk f args h with
    | some r => some r
    | none =>
      match T f with
      | none => none
      | some cf =>
        if cf.np < args.length then none else
        match kCode T hk n cf.body (initEnv args) h with
        | some (.exit _, _, _) | none => none
        | some (_, e', h') => match (cf.res.mapM (resOf e' h')).bind resVal with | some v => some (v, h') | none => none
end

theorem k_run {P : Program} {T : FuncId → Option CF} {hk : Hook} (hT : ∀ f cf, T f = some cf → compF P f = some cf) : ∀ n,
    (∀ l e h r, kOps T hk n l e h = some r → runOps P hk n l e h = some r) ∧
    (∀ c e h r, kOp T hk n c e h = some r → runOp P hk n c e h = some r) ∧
    (∀ c e h r, kCode T hk n c e h = some r → runCode P hk n c e h = some r) ∧
    (∀ f args h r, kCall T hk n f args h = some r → runCall P hk n f args h = some r) := by
  intro n
  induction n with
  | zero =>
    refine ⟨fun l e h r hr => ?_, fun c e h r hr => ?_, fun c e h r hr => ?_, fun f args h r hr => ?_⟩
    · simp [kOps] at hr
    · simp [kOp] at hr
    · simp [kCode] at hr
    · simp [kCall] at hr
  | succ n ih =>
    obtain ⟨i1, i2, i3, i4⟩ := ih
    refine ⟨fun l e h r hr => ?_, fun c e h r hr => ?_, fun c e h r hr => ?_, fun f args h r hr => ?_⟩
    · cases l with
      | nil => simpa [kOps, runOps] using hr
      | cons o l =>
        rw [kOps] at hr
        rw [runOps]
        split at hr
        · rename_i hw
          rw [if_pos hw]
          split at hr
          · rename_i v h1 hop
            rw [i2 _ _ _ _ hop]
            split at hr
            · rename_i hok
              simp only [Bool.and_eq_true, Bool.or_eq_true, Bool.not_eq_eq_eq_not, Bool.not_true] at hok
              simp only
              rw [if_neg]
              · exact i1 _ _ _ _ hr
              · rintro (h3 | ⟨h3, h4⟩)
                · rw [hok.1] at h3; simp at h3
                · rcases hok.2 with h5 | h5
                  · rw [h3] at h5; simp at h5
                  · exact h4 (extB_ext h5)
            · simp at hr
          · simp at hr
        · rename_i hw
          rw [if_neg hw]
          exact i1 _ _ _ _ hr
    · cases c
      case call f args => simp only [kOp] at hr; simp only [runOp]; exact i4 _ _ _ _ hr
      case dcall g args =>
        simp only [kOp] at hr
        split at hr
        · rename_i f caps hg; simp only [runOp, hg]; exact i4 _ _ _ _ hr
        · simp at hr
      all_goals (simp only [kOp] at hr; simp only [runOp]; exact hr)
    · cases c
      case skip => simpa [kCode, runCode] using hr
      case exit => simpa [kCode, runCode] using hr
      case ret => simpa [kCode, runCode] using hr
      case ops l =>
        simp only [kCode] at hr
        split at hr
        · rename_i q h2
          simp only [runCode, i1 _ _ _ _ h2, Option.map_some]; exact hr
        · simp at hr
      case seq a b =>
        simp only [kCode] at hr
        rw [runCode]
        split at hr
        · rename_i e1 h1 h2
          rw [i3 _ _ _ _ h2]
          exact i3 _ _ _ _ hr
        · rename_i hno
          rw [i3 _ _ _ _ hr]
          obtain ⟨x, e1, h1⟩ := r
          cases x with
          | normal => exact absurd hr (hno _ _)
          | _ => rfl
      case cond c a b =>
        simp only [kCode] at hr
        rw [runCode]
        split at hr
        · rename_i t ht; simp only [ht]; exact i3 _ _ _ _ hr
        · simp at hr
      case block id c =>
        simp only [kCode] at hr
        rw [runCode]
        split at hr
        · rename_i j e1 h1 h2
          rw [i3 _ _ _ _ h2]
          exact hr
        · rename_i hno
          rw [i3 _ _ _ _ hr]
          obtain ⟨x, e1, h1⟩ := r
          cases x with
          | exit j => exact absurd hr (hno _ _ _)
          | _ => rfl
      case loop c =>
        simp only [kCode] at hr
        rw [runCode]
        split at hr
        · rename_i e1 h1 h2
          rw [i3 _ _ _ _ h2]
          exact i3 _ _ _ _ hr
        · rename_i hno
          rw [i3 _ _ _ _ hr]
          obtain ⟨x, e1, h1⟩ := r
          cases x with
          | normal => exact absurd hr (hno _ _)
          | _ => rfl
    · rw [kCall] at hr
      rw [runCall]
      split at hr
      · rename_i q hh; rw [hh]; exact hr
      · rename_i hh
        rw [hh]
        split at hr
        · simp at hr
        · rename_i cf hcf
          rw [hT _ _ hcf]
          simp only
          split at hr
          · simp at hr
          · rename_i hnp
            rw [if_neg hnp]
            split at hr
            · simp at hr
            · simp at hr
            · rename_i x e1 h1 hno h2
              rw [i3 _ _ _ _ h2]
              split at hr
              · rename_i v hv
                cases x with
                | exit j => exact absurd rfl (hno j)
                | _ => simp only [hv, Option.map_some]; exact hr
              · simp at hr

/-- what the kernel works out in an empty heap -/
def kTrue (T : FuncId → Option CF) (hk : Hook) (n : Nat) (f : FuncId) : Bool :=
  match kCall T hk n f [] [] with
  | some (.bool true, _) => true
  | _ => false

theorem closed_true {G : Nat → Obj → Prop} {P : Program} {T : FuncId → Option CF} {hk : Hook} (hT : ∀ f cf, T f = some cf → compF P f = some cf) (hH : HookOK G P hk) (hmix : P.follows .mixedOrders = true) {n : Nat} {f : FuncId}
    (hk' : kTrue T hk n f = true) (h : Heap) : CallOK G P f [] h (.bool true) h := by
  unfold kTrue at hk'
  split at hk'
  · rename_i h' hr
    have := (k_run (P := P) hT n).2.2.2 _ _ _ _ hr
    exact callOK_closed rfl rfl (call_sound hH hmix n _ _ _ _ _ this)
  · simp at hk'

end Go.Cn
