/- Every operation that is no call. -/
import Derived.Test.YtlmlpgmpdaepkaaDoorCnSim10
set_option linter.unusedSimpArgs false
set_option linter.unusedVariables false
set_option linter.unusedSectionVars false
namespace Go.Cn
section
variable {P : Program} {a : Act} {μ : Mp} {K : View} {w : World} {e : Env} {h h' : Heap} {v : CV}

theorem sim_app {ty0 : TypeId} {o : Oper} {cl : Call} {k bytes : Nat} {st : Bool} {args : List Opd} {s' x' : Opd} (ho : o.op = .call cl) (hb : cl.callee = .builtin .append) (ha : cl.args.toList.mapM opdOf = some args) (hargs : args = [s', x'])
    (hc : compBuiltin P .append cl.argTypes args = some (.app ty0 k bytes st s' x')) (hv : exec e h (.app ty0 k bytes st s' x') = some (v, h')) (hR : ∀ x ∈ cl.args, ∀ x', opdOf x = some x' → VR μ (x'.ev e) (a.eval x))
    (hS : SimV μ K w) (hA : Agree K h (touched e (.app ty0 k bytes st s' x'))) (hn : h.length < h'.length → K h.length = none) : MemSim P o a μ K w v h h' := by
  subst hargs
  obtain ⟨s, x, hl, hs', hx'⟩ := mapM_two ha
  have hcargs : cl.args = #[s, x] := by apply Array.ext'; simpa using hl
  simp only [compBuiltin] at hc
  split at hc
  · rename_i el d ht hd
    obtain ⟨t, ht0, ht⟩ := Option.bind_eq_some_iff.1 ht
    obtain ⟨tx, hd0, hd⟩ := Option.bind_eq_some_iff.1 hd
    have hfin : ∀ k0 b0 z, sizeT P el = some k0 → bytesT P el = some b0 → (P.info? el).bind (·.zero) = some z → 0 < k0 → z.cells.size = k0 → cl.argTypes.size = 2 → k0 = k → b0 = bytes → el = ty0 →
        ((st = false ∧ ∃ e', d = .slice e') ∨ (st = true ∧ d = .string)) → MemSim P o a μ K w v h h' := by
      intro k0 b0 z h1 h2 h3 h4 h5 h6 h7 h8 h8' h9
      subst h7 h8 h8'
      simp only [sizeT, bytesT, Option.map_eq_some_iff] at h1 h2
      obtain ⟨i, hi, hk⟩ := h1
      obtain ⟨i', hi', hby⟩ := h2
      rw [hi] at hi'; simp at hi'; subst hi'
      simp only [hi, Option.bind_some] at h3
      have hty : cl.argTypes = #[t, tx] := by
        apply Array.ext
        · simpa using h6
        · intro j hj1 hj2
          have : j = 0 ∨ j = 1 := by simp at hj2; omega
          rcases this with rfl | rfl
          · have := (Array.getElem?_eq_some_iff.1 ht0).2; simpa using this
          · have := (Array.getElem?_eq_some_iff.1 hd0).2; simpa using this
      simp only [exec] at hv
      obtain ⟨μ', r, w', g1, g2, g3, g4⟩ := app_sim (P := P) (ty := o.type) ht hd h9 hi h3 hk hby h4 h5 hS
        (fun b hb => agree_at (x := s') (b := b) hA (by simp [COp.addrs]) hb) (fun b hb => agree_at (x := x') (b := b) hA (by simp [COp.addrs]) hb) hn
        (hR s (by simp [hcargs]) s' hs') (hR x (by simp [hcargs]) x' hx') hv
      refine ⟨μ', r, w', .inl ?_, g2, g3, g4⟩
      have hex : execOp a.eval o = (do let d ← resolve a.eval cl o.type; invoke d.target d.args) := by unfold execOp; rw [ho]
      obtain ⟨consts, hres⟩ : ∃ consts, resolve a.eval cl o.type = pure { target := .builtin .append cl.argTypes o.type consts, args := cl.args.map a.eval } :=
        ⟨_, by simp only [resolve, hb]; rfl⟩
      rw [hex, hres]
      simp only [pure_bind, invoke, builtin]
      have : cl.args.map a.eval = #[a.eval s, a.eval x] := by simp [hcargs]
      rw [this, hty]
      simp [g1]
    cases h1 : sizeT P el with
    | none => rw [h1] at hc; cases d <;> simp at hc
    | some k0 =>
      cases h2 : bytesT P el with
      | none => rw [h1, h2] at hc; cases d <;> simp at hc
      | some b0 =>
        cases h3 : (P.info? el).bind (·.zero) with
        | none => rw [h1, h2, h3] at hc; cases d <;> simp at hc
        | some z =>
          rw [h1, h2, h3] at hc
          cases d <;> simp only at hc <;> try (simp at hc; done)
          · split at hc
            · rename_i hcond
              simp at hc
              obtain ⟨rfl, rfl, rfl, rfl⟩ := hc
              exact hfin _ _ z h1 h2 h3 hcond.1 hcond.2.1 hcond.2.2 rfl rfl rfl (.inr ⟨rfl, rfl⟩)
            · simp at hc
          · split at hc
            · rename_i hcond
              simp at hc
              obtain ⟨rfl, rfl, rfl, rfl⟩ := hc
              exact hfin _ _ z h1 h2 h3 hcond.1 hcond.2.1 hcond.2.2 rfl rfl rfl (.inl ⟨rfl, _, rfl⟩)
            · simp at hc
  · simp at hc

theorem compBuiltin_app {b : Builtin} {ts : Array TypeId} {args : List Opd} {c : COp} (hc : compBuiltin P b ts args = some c) (h1 : c.cls ≠ .pure) : b = .append ∧ ∃ t k by' st s x, args = [s, x] ∧ c = .app t k by' st s x := by
  unfold compBuiltin at hc
  split at hc
  · split at hc
    · simp at hc; subst hc; simp [COp.cls] at h1
    · simp at hc; subst hc; simp [COp.cls] at h1
    · simp at hc
  · refine ⟨rfl, ?_⟩
    rename_i s x
    split at hc
    · split at hc
      · split at hc
        · simp at hc; exact ⟨_, _, _, _, s, x, rfl, hc.symm⟩
        · simp at hc
      · split at hc
        · simp at hc; exact ⟨_, _, _, _, s, x, rfl, hc.symm⟩
        · simp at hc
      · simp at hc
    · simp at hc
  · simp at hc; subst hc; simp [COp.cls] at h1
  · simp at hc; subst hc; simp [COp.cls] at h1
  · simp at hc

theorem compBin_pure {op : BinOp} {t : TypeId} {x y : Operand} {c : COp} (hc : compBin P op t x y = some c) : c.cls = .pure := by
  unfold compBin at hc
  repeat' split at hc
  all_goals first
    | (simp at hc; done)
    | (simp at hc; subst hc; rfl)

/-- an operation that is no call -/
theorem sim_any {o : Oper} {c : COp} (hc : compOp P o = some c) (hcls : c.cls ≠ .call) (hv : exec e h c = some (v, h')) (hR : OpsR μ e a o) (hS : SimV μ K w) (hA : Agree K h (touched e c))
    (hn : h.length < h'.length → K h.length = none) : MemSim P o a μ K w v h h' := by
  by_cases hp : c.cls = .pure
  · obtain ⟨rfl, u, hu, hw⟩ := sim_pure hc hp hv hR
    exact memSim_same hS (hw w) hu
  · replace hc := comp_cases hc
    rcases hc with hc | rfl
    case inr => simp [exec] at hv
    obtain ⟨dst, op, type, pos, after, guard⟩ := o
    cases op <;> simp only [compOp0] at hc
    case alloc t =>
      simp only [Option.map_eq_some_iff] at hc
      obtain ⟨zs, hz, rfl⟩ := hc
      simp only [exec, Option.some.injEq, Prod.mk.injEq] at hv
      obtain ⟨rfl, rfl⟩ := hv
      exact sim_allocop rfl hz hS (hn (by simp))
    case box t x =>
      simp only [Option.map_eq_some_iff] at hc
      obtain ⟨x', hx', rfl⟩ := hc
      simp only [exec] at hv
      split at hv
      · rename_i hok
        simp only [Option.some.injEq, Prod.mk.injEq] at hv
        obtain ⟨rfl, rfl⟩ := hv
        exact sim_box (t := t) rfl (hR x (by simp [Op.operands]) x' hx') hok hS (hn (by simp))
      · simp at hv
    case buildSlice t len ps =>
      split at hc
      · rename_i el hu
        split at hc
        · rename_i k z hk hz
          split at hc
          · rename_i hcond
            simp only [Option.map_eq_some_iff] at hc
            obtain ⟨l, hl, rfl⟩ := hc
            simp only [exec] at hv
            split at hv
            · rename_i cs hcs
              simp only [Option.some.injEq, Prod.mk.injEq] at hv
              obtain ⟨rfl, rfl⟩ := hv
              refine sim_lit rfl hu hk hz hcond.1 hcond.2.1 hcond.2.2 hl (fun p hp x' hx' => hR p.2 ?_ x' hx') hcs hS (hn (by simp))
              simp only [Op.operands, List.mem_toArray, List.mem_map]
              exact ⟨p, hp, rfl⟩
            · simp at hv
          · simp at hc
        · simp at hc
      · simp at hc
    case load t x =>
      split at hc
      · rename_i n x' hg hn' hx'
        simp at hc; subst hc
        exact sim_loada rfl hg hn' (hR x (by simp [Op.operands]) x' hx') hS hA hv
      · rename_i x' hg hx'
        simp at hc; subst hc
        exact sim_load rfl hg (hR x (by simp [Op.operands]) x' hx') hS hA hv
      · simp at hc
    case store t x y =>
      split at hc
      · rename_i n x' y' hn' hx' hy'
        simp at hc; subst hc
        exact sim_store rfl hn' (hR x (by simp [Op.operands]) x' hx') (hR y (by simp [Op.operands]) y' hy') hS hA hv
      · simp at hc
    case convert s d x =>
      unfold compConv at hc
      simp only [Option.bind_eq_some_iff] at hc
      obtain ⟨x', hx', hc⟩ := hc
      have hx := hR x (by simp [Op.operands]) x' hx'
      split at hc
      · simp at hc; subst hc; simp [COp.cls] at hp
      · simp at hc; subst hc; simp [COp.cls] at hp
      · simp at hc; subst hc; simp [COp.cls] at hp
      · rename_i el hs hd
        split at hc
        · rename_i he
          simp at hc; subst hc
          have hlen : h.length < h'.length := by
            simp only [exec] at hv
            split at hv
            · split at hv
              · simp at hv; rw [← hv.2]; simp
              · simp at hv
            · simp at hv
          exact sim_tobytes rfl hs hd he hx hv hS (hn hlen)
        · simp at hc
      · rename_i el el' hs hd
        split at hc
        · rename_i he
          split at hc
          · rename_i hsd
            have : s = d := by simpa using hsd
            subst this
            simp at hc; subst hc
            exact sim_mark rfl hd he hx hS hA hv
          · simp at hc
        · simp at hc
      · rename_i el hs hd
        split at hc
        · rename_i he
          simp at hc; subst hc
          exact sim_bstr rfl hs hd he hx hS hA hv
        · rename_i he
          simp at hc; subst hc
          exact sim_rstr rfl hs hd he hx hS hA hv
        · simp at hc
      · simp at hc
    case makeSlice t l cp =>
      split at hc
      · rename_i el hu
        split at hc
        · rename_i k b z l' c' hk hb hz hl' hc'
          split at hc
          · rename_i hcond
            simp at hc; subst hc
            have hlen : h.length < h'.length := by
              simp only [exec] at hv
              split at hv
              · split at hv
                · simp at hv; rw [← hv.2]; simp
                · simp at hv
              · simp at hv
            exact sim_make rfl hu hk hb hz hcond.1 hcond.2 (hR l (by simp [Op.operands]) l' hl') (hR cp (by simp [Op.operands]) c' hc') hv hS (hn hlen)
          · simp at hc
        · simp at hc
      · simp at hc
    case range t x =>
      split at hc
      · rename_i hu
        simp only [Option.map_eq_some_iff] at hc
        obtain ⟨x', hx', rfl⟩ := hc
        have hlen : h.length < h'.length := by
          simp only [exec] at hv
          split at hv
          · simp at hv; rw [← hv.2]; simp
          · simp at hv
        exact sim_range rfl hu (hR x (by simp [Op.operands]) x' hx') hv hS (hn hlen)
      · simp at hc
    case next x b =>
      cases b
      · simp at hc
      · simp only [Option.map_eq_some_iff] at hc
        obtain ⟨x', hx', rfl⟩ := hc
        exact sim_next rfl (hR x (by simp [Op.operands]) x' hx') hS hA hv
    case call cl =>
      split at hc
      · simp at hc
      · rename_i args hargs
        split at hc
        · rename_i b hb
          obtain ⟨rfl, t0, k, by', st, s, x, ha, rfl⟩ := compBuiltin_app hc hp
          exact sim_app rfl hb hargs ha hc hv (fun x hx => hR x (by simp [Op.operands, Call.operands, hb, hx])) hS hA hn
        · simp at hc; subst hc; simp [COp.cls] at hcls
        · simp only [Option.map_eq_some_iff] at hc
          obtain ⟨_, _, rfl⟩ := hc
          simp [COp.cls] at hcls
        · simp at hc
    case binOp op t x y yt => exact absurd (compBin_pure hc) hp
    case makeFunc fn first caps =>
      cases fn <;> simp only at hc <;> try (simp at hc; done)
      split at hc
      · simp only [Option.map_eq_some_iff] at hc
        obtain ⟨_, _, rfl⟩ := hc
        simp [COp.cls] at hp
      · simp at hc
    all_goals first
      | (simp at hc; done)
      | (exfalso
         repeat' split at hc
         all_goals first
           | (simp at hc; done)
           | (simp at hc; subst hc; simp [COp.cls] at hp; done)
           | (simp only [Option.map_eq_some_iff] at hc; obtain ⟨_, _, rfl⟩ := hc; simp [COp.cls] at hp; done))

end
end Go.Cn
