/- Marks, texts out of rows; every operation that is no call, in one theorem. -/
import Derived.Test.YtlmlpgmpdaepkaaDoorCnSim9
set_option linter.unusedSimpArgs false
set_option linter.unusedVariables false
set_option linter.unusedSectionVars false
namespace Go.Cn
section
variable {P : Program} {a : Act} {μ : Mp} {K : View} {w : World} {e : Env} {h h' : Heap} {v : CV}

theorem View.set_self {b : Nat} {blk : Blk} (hK : K b = some blk) : K.set b blk = K := by
  funext c
  unfold View.set
  split
  · rename_i e; rw [e, hK]
  · rfl

theorem sim_mark {o : Oper} {s el : TypeId} {x : Operand} {x' : Opd} (ho : o.op = .convert s s x) (hs : P.underlying s = some (.slice el)) (he : P.underlying el = some (.int .u8)) (hx : VR μ (x'.ev e) (a.eval x)) (hS : SimV μ K w)
    (hA : Agree K h (touched e (.mark x'))) (hv : exec e h (.mark x') = some (v, h')) : MemSim P o a μ K w v h h' := by
  have hA' := fun b hb => agree_at (x := x') (b := b) hA (by simp [COp.addrs]) hb
  simp only [exec] at hv
  generalize x'.ev e = cx at *
  split at hv
  · rename_i b off len cap k ex
    split at hv
    · rename_i blk hb
      split at hv
      · rename_i hc
        simp only [Option.some.injEq, Prod.mk.injEq] at hv
        obtain ⟨rfl, rfl⟩ := hv
        have hx0 := hx
        simp only [VR, VRa, VRc] at hx
        obtain ⟨pl, ad, cap', hm, hxe, q1, q2, q3, q4, q5⟩ := hx
        rcases q5 with q5 | ⟨rfl, q5⟩
        · omega
        · obtain ⟨hK, hB⟩ := blk_at hS (hA' b rfl) hm hb
          have hB := hB (by rw [hc.1]; simp)
          unfold BlkOK at hB
          rw [if_neg (by rw [hc.1]; simp)] at hB
          obtain ⟨arr, el', fr, h1, h2, h3, h4, h5, h6⟩ := hB
          obtain ⟨⟨fr', f1, f2⟩, f3, f4, f5, f6, f7⟩ := freeze_at h1 (h5 hc.1)
          have hu := sim_upd (w' := w.freeze ⟨pl.r, arr.size, none⟩ 1) (blk' := blk) hS hK (.inl hc.1) hm f4 f3 f5 f6 f7 (fun _ => by
            unfold BlkOK
            rw [if_neg (by rw [hc.1]; simp)]
            exact ⟨arr, el', fr', f1, h2, h3, h4, fun _ => f2, h6⟩)
          rw [View.set_self hK] at hu
          refine ⟨μ, a.eval x, _, .inl ?_, hx0, by rw [updK_self]; exact hu.2, by rw [updK_self]; exact hu.1⟩
          rw [ex_conv ho, hxe]
          have hsh : w.shape? pl.r = some (el', arr.size) := by simp [World.shape?, h1]
          simp [convert, run_underlying hs, run_underlying he, markStringish, hsh]
      · simp at hv
    · simp at hv
  · simp at hv

theorem bytes_loop {f : Value → ByteArray → Sem (ForInStep ByteArray)} (hf : ∀ n r, f (.int .u8 n) r = pure (.yield (r.push (UInt8.ofNat n.toNat)))) :
    ∀ (cs : List CV) (vs : List Value) (s acc : ByteArray) (w : World), VL μ cs vs → bytesOf cs = some s → (forIn vs acc f).run P w = .ok (acc ++ s) w := by
  intro cs
  induction cs with
  | nil =>
    intro vs s acc w hl hb
    cases vs with
    | nil => simp [bytesOf] at hb; subst hb; simp
    | cons => exact hl.elim
  | cons c cs ih =>
    intro vs s acc w hl hb
    cases vs with
    | nil => exact hl.elim
    | cons u us =>
      obtain ⟨hc, hr⟩ := hl
      simp only [bytesOf] at hb
      split at hb
      · rename_i n r hr'
        simp at hb
        subst hb
        simp only [VRc] at hc
        subst hc
        have := ih us r (acc.push (UInt8.ofNat n.toNat)) w hr hr'
        rw [List.forIn_cons, hf]
        simp only [pure_bind]
        rw [this]
        congr 1
        apply ByteArray.ext
        apply Array.ext'
        simp
      · simp at hb

theorem runes_loop {f : Value → ByteArray → Sem (ForInStep ByteArray)} (hf : ∀ n r, f (.int .i32 n) r = pure (.yield (r ++ Utf8.encode n))) :
    ∀ (cs : List CV) (vs : List Value) (s acc : ByteArray) (w : World), VL μ cs vs → runesOf cs = some s → (forIn vs acc f).run P w = .ok (acc ++ s) w := by
  intro cs
  induction cs with
  | nil =>
    intro vs s acc w hl hb
    cases vs with
    | nil => simp [runesOf] at hb; subst hb; simp
    | cons => exact hl.elim
  | cons c cs ih =>
    intro vs s acc w hl hb
    cases vs with
    | nil => exact hl.elim
    | cons u us =>
      obtain ⟨hc, hr⟩ := hl
      simp only [runesOf] at hb
      split at hb
      · rename_i n r hr'
        simp at hb
        subst hb
        simp only [VRc] at hc
        subst hc
        have := ih us r (acc ++ Utf8.encode n) w hr hr'
        rw [List.forIn_cons, hf]
        simp only [pure_bind]
        rw [this, ByteArray.append_assoc]
      · simp at hb

theorem run_bytesToString {ad : Addr} {len cap : Nat} {vs : List Value} {cs : List CV} {s : ByteArray} (hl : VL μ cs vs) (hb : bytesOf cs = some s) (hld : (loadCells ad len).run P w = .ok vs.toArray w) :
    (Conv.bytesToString (.slice (some ad) len cap)).run P w = .ok (.string s) w := by
  unfold Conv.bytesToString
  simp only [Sem.run_bind, hld, Result.andThen_ok]
  rw [← Array.forIn_toList]
  have := bytes_loop (P := P) (f := fun c __s =>
            match c with
            | Value.int IntKind.u8 n => pure (ForInStep.yield (__s.push (UInt8.ofNat n.toNat)))
            | x => do
              stuck "bytesToString: byte expected"
              pure (ForInStep.yield __s)) (fun _ _ => rfl) cs vs s ByteArray.empty w hl hb
  exact (congrArg (fun r : Result ByteArray => r.andThen fun a w' => Sem.run P (pure (Value.string a)) w') this).trans (by simp)

theorem run_runesToString {ad : Addr} {len cap : Nat} {vs : List Value} {cs : List CV} {s : ByteArray} (hl : VL μ cs vs) (hb : runesOf cs = some s) (hld : (loadCells ad len).run P w = .ok vs.toArray w) :
    (Conv.runesToString (.slice (some ad) len cap)).run P w = .ok (.string s) w := by
  unfold Conv.runesToString
  simp only [Sem.run_bind, hld, Result.andThen_ok]
  rw [← Array.forIn_toList]
  have := runes_loop (P := P) (f := fun c __s =>
            match c with
            | Value.int IntKind.i32 n => pure (ForInStep.yield (__s ++ Utf8.encode n))
            | x => do
              stuck "runesToString: rune expected"
              pure (ForInStep.yield __s)) (fun _ _ => rfl) cs vs s ByteArray.empty w hl hb
  exact (congrArg (fun r : Result ByteArray => r.andThen fun a w' => Sem.run P (pure (Value.string a)) w') this).trans (by simp)

theorem sim_bstr {o : Oper} {s d el : TypeId} {x : Operand} {x' : Opd} (ho : o.op = .convert s d x) (hs : P.underlying s = some (.slice el)) (hd : P.underlying d = some .string) (he : P.underlying el = some (.int .u8)) (hx : VR μ (x'.ev e) (a.eval x)) (hS : SimV μ K w)
    (hA : Agree K h (touched e (.bstr x'))) (hv : exec e h (.bstr x') = some (v, h')) : MemSim P o a μ K w v h h' := by
  have hA' := fun b hb => agree_at (x := x') (b := b) hA (by simp [COp.addrs]) hb
  simp only [exec] at hv
  generalize x'.ev e = cx at *
  split at hv
  · rename_i cs n hsrc
    simp only [Option.map_eq_some_iff, Prod.mk.injEq] at hv
    obtain ⟨str, hb, rfl, rfl⟩ := hv
    cases cx <;> simp only [srcCells] at hsrc <;> try (simp at hsrc; done)
    rotate_left
    · simp at hsrc
      obtain ⟨rfl, rfl⟩ := hsrc
      simp [bytesOf] at hb
      subst hb
      simp only [VR, VRa, VRc] at hx
      refine memSim_same hS (u := .string .empty) ?_ rfl
      rw [ex_conv ho, hx]
      simp [convert, run_underlying hs, run_underlying hd, run_underlying he, Conv.bytesToString]
    · rename_i b off len cap k' ex
      split at hsrc
      · rename_i hk
        subst hk
        simp only [Option.map_eq_some_iff, Prod.mk.injEq] at hsrc
        obtain ⟨cs', hld, rfl, rfl⟩ := hsrc
        simp only [VR, VRa, VRc] at hx
        obtain ⟨pl, ad, cap', hm, hxe, q1, q2, q3, q4, q5⟩ := hx
        obtain ⟨vs, o1, o2, o3⟩ := ld_at hS (hA' b rfl) hm hld
        have hrun : (loadCells ad len).run P w = .ok vs.toArray w := by
          rw [← show vs.length = len by omega]
          refine run_loadCells_list w ad vs ?_
          rcases q5 with q5 | ⟨rfl, _⟩
          · have : vs = [] := by cases vs with
              | nil => rfl
              | cons => simp at o2; omega
            subst this; intro j u hu; simp at hu
          · exact addr_range o3
        refine memSim_same hS (u := .string str) ?_ rfl
        rw [ex_conv ho, hxe]
        have := run_bytesToString (P := P) (cap := cap') o1 hb hrun
        simp [convert, run_underlying hs, run_underlying hd, run_underlying he, this]
      · simp at hsrc
  · simp at hv

theorem sim_rstr {o : Oper} {s d el : TypeId} {x : Operand} {x' : Opd} (ho : o.op = .convert s d x) (hs : P.underlying s = some (.slice el)) (hd : P.underlying d = some .string) (he : P.underlying el = some (.int .i32)) (hx : VR μ (x'.ev e) (a.eval x)) (hS : SimV μ K w)
    (hA : Agree K h (touched e (.rstr x'))) (hv : exec e h (.rstr x') = some (v, h')) : MemSim P o a μ K w v h h' := by
  have hA' := fun b hb => agree_at (x := x') (b := b) hA (by simp [COp.addrs]) hb
  simp only [exec] at hv
  generalize x'.ev e = cx at *
  split at hv
  · rename_i cs n hsrc
    simp only [Option.map_eq_some_iff, Prod.mk.injEq] at hv
    obtain ⟨str, hb, rfl, rfl⟩ := hv
    cases cx <;> simp only [srcCells] at hsrc <;> try (simp at hsrc; done)
    rotate_left
    · simp at hsrc
      obtain ⟨rfl, rfl⟩ := hsrc
      simp [runesOf] at hb
      subst hb
      simp only [VR, VRa, VRc] at hx
      refine memSim_same hS (u := .string .empty) ?_ rfl
      rw [ex_conv ho, hx]
      simp [convert, run_underlying hs, run_underlying hd, run_underlying he, Conv.runesToString]
    · rename_i b off len cap k' ex
      split at hsrc
      · rename_i hk
        subst hk
        simp only [Option.map_eq_some_iff, Prod.mk.injEq] at hsrc
        obtain ⟨cs', hld, rfl, rfl⟩ := hsrc
        simp only [VR, VRa, VRc] at hx
        obtain ⟨pl, ad, cap', hm, hxe, q1, q2, q3, q4, q5⟩ := hx
        obtain ⟨vs, o1, o2, o3⟩ := ld_at hS (hA' b rfl) hm hld
        have hrun : (loadCells ad len).run P w = .ok vs.toArray w := by
          rw [← show vs.length = len by omega]
          refine run_loadCells_list w ad vs ?_
          rcases q5 with q5 | ⟨rfl, _⟩
          · have : vs = [] := by cases vs with
              | nil => rfl
              | cons => simp at o2; omega
            subst this; intro j u hu; simp at hu
          · exact addr_range o3
        refine memSim_same hS (u := .string str) ?_ rfl
        rw [ex_conv ho, hxe]
        have := run_runesToString (P := P) (cap := cap') o1 hb hrun
        simp [convert, run_underlying hs, run_underlying hd, run_underlying he, this]
      · simp at hsrc
  · simp at hv

end
end Go.Cn
