/- Every operation that touches no memory: the canonical run tells what the machine does. -/
import Derived.Test.YtlmlpgmpdaepkaaDoorCnSim3
set_option linter.unusedSimpArgs false
set_option linter.unusedVariables false
set_option linter.unusedSectionVars false
namespace Go.Cn
section
variable {P : Program} {a : Act} {μ : Mp} {e : Env} {h h' : Heap} {v : CV}

theorem optR_of {x : Option Operand} {x' : Option Opd} (h : optOpd x = some x') (hR : ∀ y ∈ x.toArray, ∀ y', opdOf y = some y' → VR μ (y'.ev e) (a.eval y)) : OptR μ e a x x' := by
  cases x with
  | none => simp [optOpd] at h; subst h; trivial
  | some x =>
    simp only [optOpd, Option.map_eq_some_iff] at h
    obtain ⟨y, hy, rfl⟩ := h
    exact hR x (by simp) y hy

theorem compBin_sim {op : BinOp} {t : TypeId} {x y : Operand} {c : COp} (hc : compBin P op t x y = some c) (hx : ∀ x', opdOf x = some x' → VR μ (x'.ev e) (a.eval x)) (hy : ∀ y', opdOf y = some y' → VR μ (y'.ev e) (a.eval y))
    (hv : exec e h c = some (v, h')) : h' = h ∧ Res P (do eqGuard op t x y (a.eval x) (a.eval y); binOp op t (a.eval x) (a.eval y)) μ v := by
  unfold compBin at hc
  split at hc
  · rename_i x' y' hx' hy'
    have hx := hx x' hx'
    have hy := hy y' hy'
    have hb : c = .bin op x' y' → h' = h ∧ Res P (do eqGuard op t x y (a.eval x) (a.eval y); binOp op t (a.eval x) (a.eval y)) μ v := by
      rintro rfl
      simp only [exec, Option.map_eq_some_iff, Prod.mk.injEq] at hv
      obtain ⟨u, hu, rfl, rfl⟩ := hv
      exact ⟨rfl, res_bin hx hy hu⟩
    split at hc
    · rename_i ho
      split at hc
      · simp at hc; exact hb hc.symm
      · simp at hc; exact hb hc.symm
      · rename_i hu
        simp at hc; subst hc
        exact res_eqb hu ho hx hy hv
      · rename_i fs hu
        split at hc
        · simp at hc
        · rename_i hg
          split at hc
          · rename_i ks hf
            simp at hc; subst hc
            exact res_eqa hu (by simpa using hg) hf ho hx hy hv
          · simp at hc
      · rename_i d _ _ _ _ hu
        split at hc
        · rename_i k hk
          split at hc
          · rename_i hky
            simp at hc; subst hc
            have := res_eqn hu hk ho hx hky hv
            exact ⟨this.1, this.2.1⟩
          · split at hc
            · rename_i hkx
              simp at hc; subst hc
              have := res_eqn hu hk ho hy hkx hv
              exact ⟨this.1, this.2.2⟩
            · simp at hc
        · simp at hc
      · simp at hc
    · simp at hc; exact hb hc.symm
  · simp at hc

theorem builtin_sim {o : Oper} {cl : Call} {b : Builtin} {args : List Opd} {c : COp} (ho : o.op = .call cl) (hb : cl.callee = .builtin b) (ha : cl.args.toList.mapM opdOf = some args)
    (hc : compBuiltin P b cl.argTypes args = some c) (hcls : c.cls = .pure) (hv : exec e h c = some (v, h')) (hR : ∀ x ∈ cl.args, ∀ x', opdOf x = some x' → VR μ (x'.ev e) (a.eval x)) :
    h' = h ∧ PureSim P o a μ v := by
  have hex : execOp a.eval o = (do let d ← resolve a.eval cl o.type; invoke d.target d.args) := by unfold execOp; rw [ho]
  obtain ⟨consts, hres⟩ : ∃ consts, resolve a.eval cl o.type = pure { target := .builtin b cl.argTypes o.type consts, args := cl.args.map a.eval } :=
    ⟨_, by simp only [resolve, hb]; rfl⟩
  have hrun : ∀ (s : Sem Value), (∀ consts, builtin b cl.argTypes o.type consts (cl.args.map a.eval) = (do pure (.value (← s)) : Sem Next)) → Res P s μ v → PureSim P o a μ v := by
    intro s hs ⟨u, hu, hw⟩
    refine ⟨u, hu, fun w => ?_⟩
    rw [hex, hres]
    simp only [pure_bind, invoke, hs]
    simp [hw w]
  unfold compBuiltin at hc
  split at hc
  · rename_i x'
    obtain ⟨x, hl, hx'⟩ := mapM_one ha
    have hargs : cl.args = #[x] := by apply Array.ext'; simpa using hl
    have hx := hR x (by simp [hargs]) x' hx'
    split at hc
    · rename_i ht
      simp at hc; subst hc
      have := res_slen (ty := o.type) ht hx hv
      refine ⟨this.1, hrun _ (fun _ => ?_) this.2⟩
      simp [builtin, hargs]
    · rename_i el ht
      simp at hc; subst hc
      have := res_len (ty := o.type) ht hx hv
      refine ⟨this.1, hrun _ (fun _ => ?_) this.2⟩
      simp [builtin, hargs]
    · simp at hc
  · split at hc
    · split at hc
      · split at hc
        · simp at hc; subst hc; simp [COp.cls] at hcls
        · simp at hc
      · split at hc
        · simp at hc; subst hc; simp [COp.cls] at hcls
        · simp at hc
      · simp at hc
    · simp at hc
  · rename_i x' y'
    obtain ⟨x, y, hl, hx', hy'⟩ := mapM_two ha
    have hargs : cl.args = #[x, y] := by apply Array.ext'; simpa using hl
    simp at hc; subst hc
    have := res_min2 (P := P) (argTypes := cl.argTypes) (ty := o.type) (hR x (by simp [hargs]) x' hx') (hR y (by simp [hargs]) y' hy') hv
    refine ⟨this.1, hrun _ (fun _ => ?_) this.2⟩
    simp [builtin, hargs]
  · rename_i x' y'
    obtain ⟨x, y, hl, hx', hy'⟩ := mapM_two ha
    have hargs : cl.args = #[x, y] := by apply Array.ext'; simpa using hl
    simp at hc; subst hc
    have := res_max2 (P := P) (argTypes := cl.argTypes) (ty := o.type) (hR x (by simp [hargs]) x' hx') (hR y (by simp [hargs]) y' hy') hv
    refine ⟨this.1, hrun _ (fun _ => ?_) this.2⟩
    simp [builtin, hargs]
  · simp at hc

theorem sim_pure {o : Oper} {c : COp} (hc : compOp P o = some c) (hcls : c.cls = .pure) (hv : exec e h c = some (v, h')) (hR : OpsR μ e a o) : h' = h ∧ PureSim P o a μ v := by
  replace hc := comp_cases hc
  rcases hc with hc | rfl
  case inr => simp [exec] at hv
  obtain ⟨dst, op, type, pos, after, guard⟩ := o
  cases op <;> simp only [compOp0] at hc
  case move x =>
    simp only [Option.map_eq_some_iff] at hc
    obtain ⟨x', hx', rfl⟩ := hc
    simp only [exec, Option.some.injEq, Prod.mk.injEq] at hv
    obtain ⟨rfl, rfl⟩ := hv
    exact ⟨rfl, a.eval x, hR x (by simp [Op.operands]) x' hx', fun w => rfl⟩
  case assign x =>
    simp only [Option.map_eq_some_iff] at hc
    obtain ⟨x', hx', rfl⟩ := hc
    simp only [exec, Option.some.injEq, Prod.mk.injEq] at hv
    obtain ⟨rfl, rfl⟩ := hv
    exact ⟨rfl, a.eval x, hR x (by simp [Op.operands]) x' hx', fun w => rfl⟩
  case pick x y z =>
    split at hc
    · rename_i x' y' z' hx' hy' hz'
      simp at hc; subst hc
      simp only [exec] at hv
      split at hv
      · rename_i t ht
        simp at hv
        obtain ⟨rfl, rfl⟩ := hv
        have hx := hR x (by simp [Op.operands]) x' hx'
        rw [ht] at hx
        simp only [VR, VRa, VRc] at hx
        refine ⟨rfl, if t then a.eval y else a.eval z, ?_, fun w => ?_⟩
        · cases t
          · exact hR z (by simp [Op.operands]) z' hz'
          · exact hR y (by simp [Op.operands]) y' hy'
        · simp [execOp, hx, asBool]
      · simp at hv
    · simp at hc
  case build t ps =>
    split at hc
    · rename_i fs hu
      split at hc
      · rename_i zs l hz hl
        split at hc
        · rename_i hfs
          simp at hc; subst hc
          simp only [exec] at hv
          split at hv
          · rename_i r hr
            simp at hv
            obtain ⟨rfl, rfl⟩ := hv
            refine ⟨rfl, Res.pureSim rfl (res_build hu hz hl hfs (fun p hp x' hx' => hR p.2 ?_ x' hx') hr)⟩
            simp only [Op.operands, List.mem_toArray, List.mem_map]
            exact ⟨p, hp, rfl⟩
          · simp at hv
        · simp at hc
      · simp at hc
    · simp at hc
  case nilCheck x =>
    simp only [Option.map_eq_some_iff] at hc
    obtain ⟨x', hx', rfl⟩ := hc
    have hx := hR x (by simp [Op.operands]) x' hx'
    simp only [exec] at hv
    generalize x'.ev e = cx at *
    split at hv
    · simp at hv
      obtain ⟨rfl, rfl⟩ := hv
      obtain ⟨pl, hmu, hx1⟩ := hx
      exact ⟨rfl, a.eval x, ⟨pl, hmu, hx1⟩, fun w => by simp [execOp, hx1]⟩
    · simp at hv
      obtain ⟨rfl, rfl⟩ := hv
      obtain ⟨vs, hx1, h2⟩ := hx
      exact ⟨rfl, a.eval x, ⟨vs, hx1, h2⟩, fun w => by simp [execOp, hx1]⟩
    · simp at hv
  case binOp op t x y yt =>
    obtain ⟨h1, h2⟩ := compBin_sim hc (hR x (by simp [Op.operands])) (hR y (by simp [Op.operands])) hv
    exact ⟨h1, Res.pureSim rfl h2⟩
  case unOp op t x =>
    simp only [Option.map_eq_some_iff] at hc
    obtain ⟨x', hx', rfl⟩ := hc
    simp only [exec, Option.map_eq_some_iff, Prod.mk.injEq] at hv
    obtain ⟨u, hu, rfl, rfl⟩ := hv
    exact ⟨rfl, Res.pureSim rfl (res_un (hR x (by simp [Op.operands]) x' hx') hu)⟩
  case convert s d x =>
    unfold compConv at hc
    simp only [Option.bind_eq_some_iff] at hc
    obtain ⟨x', hx', hc⟩ := hc
    have hx := hR x (by simp [Op.operands]) x' hx'
    split at hc
    · rename_i k0 k hs hd
      simp at hc; subst hc
      simp only [exec] at hv
      split at hv
      · rename_i k1 n hn
        simp at hv
        obtain ⟨rfl, rfl⟩ := hv
        rw [hn] at hx
        simp only [VR, VRa, VRc] at hx
        exact ⟨rfl, Res.pureSim rfl ⟨_, rfl, fun w => by rw [hx]; exact run_convert_toint hs hd⟩⟩
      · simp at hv
    · rename_i hs hd
      simp at hc; subst hc
      simp only [exec] at hv
      split at hv
      · rename_i s1 hn
        simp at hv
        obtain ⟨rfl, rfl⟩ := hv
        rw [hn] at hx
        simp only [VR, VRa, VRc] at hx
        exact ⟨rfl, Res.pureSim rfl ⟨_, rfl, fun w => by rw [hx]; exact run_convert_str hs hd⟩⟩
      · simp at hv
    · rename_i k0 hs hd
      simp at hc; subst hc
      simp only [exec] at hv
      split at hv
      · rename_i k1 n hn
        simp at hv
        obtain ⟨rfl, rfl⟩ := hv
        rw [hn] at hx
        simp only [VR, VRa, VRc] at hx
        exact ⟨rfl, Res.pureSim rfl ⟨_, rfl, fun w => by rw [hx]; exact run_convert_istr hs hd⟩⟩
      · simp at hv
    · split at hc
      · simp at hc; subst hc; simp [COp.cls] at hcls
      · simp at hc
    · split at hc
      · split at hc
        · simp at hc; subst hc; simp [COp.cls] at hcls
        · simp at hc
      · simp at hc
    · split at hc
      · simp at hc; subst hc; simp [COp.cls] at hcls
      · simp at hc; subst hc; simp [COp.cls] at hcls
      · simp at hc
    · simp at hc
  case makeFunc fn first caps =>
    cases fn <;> simp only at hc <;> try (simp at hc; done)
    rename_i f
    split at hc
    · rename_i hf
      simp only [Option.map_eq_some_iff] at hc
      obtain ⟨caps', hm, rfl⟩ := hc
      simp only [exec] at hv
      split at hv
      · rename_i cs hcs
        simp at hv
        obtain ⟨rfl, rfl⟩ := hv
        have hf0 : first = #[] := Array.eq_empty_of_size_eq_zero hf
        subst hf0
        obtain ⟨p1, p2⟩ := ptrs_run (f := f) caps.toList caps' cs hm (fun x hx x' hx' => hR x (by simpa [Op.operands] using hx) x' hx') hcs
        refine ⟨rfl, .func (.func f) #[] (caps.map a.eval), ⟨caps.map a.eval, rfl, by simpa using p1, fun i c hc => ?_⟩, fun w => by simp [execOp, Instr.makeFunc]⟩
        obtain ⟨pl, h1, h2⟩ := p2 i c hc
        exact ⟨pl, h1, by simpa using h2⟩
      · simp at hv
    · simp at hc
  case makeInterface t x =>
    split at hc
    · simp at hc
    · simp at hc
    · rename_i d hd hu
      simp only [Option.map_eq_some_iff] at hc
      obtain ⟨x', hx', rfl⟩ := hc
      simp only [exec] at hv
      split at hv
      · rename_i ho
        simp at hv
        obtain ⟨rfl, rfl⟩ := hv
        refine ⟨rfl, Res.pureSim rfl ⟨.iface t (a.eval x), VR.of_c ⟨_, rfl, (hR x (by simp [Op.operands]) x' hx').one ho⟩, fun w => ?_⟩⟩
        simp only [Instr.makeInterface, Sem.run_bind, run_underlying hu, Result.andThen_ok]
        rfl
      · simp at hv
  case slice t x lo hi mx =>
    split at hc
    · rename_i x' lo' hi' hu hx' hlo hhi hmx
      simp at hc; subst hc
      have hmx0 : mx = none := by cases mx <;> simp [optOpd] at hmx ⊢
      subst hmx0
      obtain ⟨h1, h2⟩ := res_sslice (P := P) hu (hR x (by simp [Op.operands]) x' hx') (optR_of hlo fun y hy => hR y (by simp [Op.operands]; right; left; simpa using hy)) (optR_of hhi fun y hy => hR y (by simp [Op.operands]; right; right; simpa using hy)) hv
      exact ⟨h1, Res.pureSim rfl h2⟩
    · rename_i el x' lo' hi' mx' hu hx' hlo hhi hmx
      simp only [Option.map_eq_some_iff] at hc
      obtain ⟨k, hk, rfl⟩ := hc
      obtain ⟨h1, h2⟩ := res_slice hu hk (hR x (by simp [Op.operands]) x' hx') (optR_of hlo fun y hy => hR y (by simp [Op.operands]; right; left; simpa using hy))
        (optR_of hhi fun y hy => hR y (by simp [Op.operands]; right; right; left; simpa using hy)) (optR_of hmx fun y hy => hR y (by simp [Op.operands]; right; right; right; simpa using hy)) hv
      exact ⟨h1, Res.pureSim rfl h2⟩
    · simp at hc
  case fieldAddr s x f =>
    split at hc
    · rename_i fs hu
      split at hc
      · rename_i fd hf
        split at hc
        · rename_i n x' hn hx'
          split at hc
          · rename_i h0
            simp at hc; subst hc
            obtain ⟨h1, h2⟩ := res_faddr hu hf hn h0 (hR x (by simp [Op.operands]) x' hx') hv
            exact ⟨h1, Res.pureSim rfl h2⟩
          · simp at hc
        · simp at hc
      · simp at hc
    · simp at hc
  case field s x f =>
    split at hc
    · rename_i fs hu
      split at hc
      · rename_i fd hf
        split at hc
        · rename_i n x' ha hn hx'
          simp at hc; subst hc
          obtain ⟨h1, h2⟩ := res_fld hu hf (.inl ⟨ha, n, hn, rfl⟩) (hR x (by simp [Op.operands]) x' hx') hv
          exact ⟨h1, Res.pureSim rfl h2⟩
        · rename_i x' ha hx'
          simp at hc; subst hc
          obtain ⟨h1, h2⟩ := res_fld hu hf (.inr ⟨ha, rfl⟩) (hR x (by simp [Op.operands]) x' hx') hv
          exact ⟨h1, Res.pureSim rfl h2⟩
        · simp at hc
      · simp at hc
    · simp at hc
  case indexAddr t x i =>
    split at hc
    · rename_i el hu
      split at hc
      · rename_i k x' i' hk hx' hi'
        simp at hc; subst hc
        obtain ⟨h1, h2⟩ := res_iaddr hu hk (hR x (by simp [Op.operands]) x' hx') (hR i (by simp [Op.operands]) i' hi') hv
        exact ⟨h1, Res.pureSim rfl h2⟩
      · simp at hc
    · simp at hc
  case index t x i =>
    split at hc
    · rename_i x' i' hu hx' hi'
      simp at hc; subst hc
      obtain ⟨h1, h2⟩ := res_idx hu (hR x (by simp [Op.operands]) x' hx') (hR i (by simp [Op.operands]) i' hi') hv
      exact ⟨h1, Res.pureSim rfl h2⟩
    · simp at hc
  case extract x i =>
    simp only [Option.map_eq_some_iff] at hc
    obtain ⟨x', hx', rfl⟩ := hc
    obtain ⟨h1, h2⟩ := res_ext (P := P) (hR x (by simp [Op.operands]) x' hx') hv
    exact ⟨h1, Res.pureSim rfl h2⟩
  case call cl =>
    split at hc
    · simp at hc
    · rename_i args hargs
      split at hc
      · rename_i b hb
        exact builtin_sim rfl hb hargs hc hcls hv fun x hx => hR x (by simp [Op.operands, Call.operands, hb, hx])
      · simp at hc; subst hc; simp [COp.cls] at hcls
      · simp only [Option.map_eq_some_iff] at hc
        obtain ⟨_, _, rfl⟩ := hc
        simp [COp.cls] at hcls
      · simp at hc
  case next x b =>
    cases b
    · simp at hc
    · simp only [Option.map_eq_some_iff] at hc
      obtain ⟨_, _, rfl⟩ := hc
      simp [COp.cls] at hcls
  all_goals first
    | (simp at hc; done)
    | (exfalso
       repeat' split at hc
       all_goals first
         | (simp at hc; done)
         | (simp at hc; subst hc; simp [COp.cls] at hcls; done)
         | (simp only [Option.map_eq_some_iff] at hc; obtain ⟨_, _, rfl⟩ := hc; simp [COp.cls] at hcls; done))

end
end Go.Cn
