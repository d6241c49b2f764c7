/- The program's reader of JSON: its small functions. -/
import Derived.Test.YtlmlpgmpdaepkaaDoorCdJson
import Derived.Test.YtlmlpgmpdaepkaaDoorCnWalk
import Derived.Test.YtlmlpgmpdaepkaaDoorCnLayer
import Derived.Test.YtlmlpgmpdaepkaaDoorCdAwake2
set_option linter.unusedSimpArgs false
set_option linter.unusedVariables false
set_option linter.unusedSectionVars false
namespace Go.Cn.D
open Go.Proofs
set_option maxRecDepth 100000

def plainS : FuncId → Bool := fun f => f == 51 || f == 72 || f == 73
def topG : FuncId → Bool := fun f => f == 5 || f == 6 || f == 13 || f == 27 || f == 28 || f == 29 || f == 30 || f == 31 || f == 48 || f == 49 || f == 50 || f == 52 || f == 53 || f == 54 || f == 55 || f == 56 || f == 70 || f == 71 || f == 74 || f == 75 || f == 76 || f == 84 || f == 88
noncomputable def hookG : Hook := layer Tryd.prog hookD topG (orHook (truths [14]) (plainHook Tryd.prog hookD plainS))

theorem hG {f : FuncId} (ht : topG f = true) (hp : plainS f = false) (h14 : f ≠ 14) (a : List CV) (h : Heap) : hookG f a h = none :=
  layer_top (by rw [orHook_r (by simp [truths, h14])]; exact plainHook_none hp) ht
theorem hG14 (h : Heap) : den Tryd.prog hookG 14 [] h = some (.bool true, h) := den_hook (layer_sp (orHook_l (by simp [truths])))
theorem denG {f : FuncId} {a : List CV} {h : Heap} {r : CV × Heap} (ht : topG f = false) (hp : plainS f = false) (h14 : f ≠ 14) (hd : den Tryd.prog hookD f a h = some r) : den Tryd.prog hookG f a h = some r :=
  den_hook (layer_old (by rw [orHook_r (by simp [truths, h14])]; exact plainHook_none hp) ht hd)
theorem denGp {f : FuncId} {a : List CV} {h h' : Heap} {v : CV} (hp : plainS f = true) (h14 : f ≠ 14) (ha : plainL a = true) (hv : v.plain = true) (hd : den Tryd.prog hookD f a [] = some (v, h')) : den Tryd.prog hookG f a h = some (v, h) :=
  den_hook (layer_sp (by rw [orHook_r (by simp [truths, h14])]; exact plainHook_eq hp ha hd hv))

theorem hookG_ok {G : Nat → Obj → Prop} (hH : HookOK G Tryd.prog hookD) : HookOK G Tryd.prog hookG :=
  layer_ok hH mixed (orHook_ok (truths_ok (n := 4000) (l := [14]) tab_ok hH mixed (fun f hf => by
    simp only [List.mem_cons, List.not_mem_nil, or_false] at hf
    subst hf
    exact awake11)) (plainHook_ok hH mixed))

/-- a run that the kernel works out, as a fact of den -/
theorem den_closed {f : FuncId} {a : List CV} {v : CV} {n : Nat} (h : (match kCall tab hookD n f a [] with | some (r, _) => r.same v | none => false) = true) : ∃ h', den Tryd.prog hookD f a [] = some (v, h') := by
  split at h
  · rename_i r h' hq
    refine ⟨h', den_iff.2 ⟨n, ?_⟩⟩
    rw [← same_eq h]
    exact (k_run (P := Tryd.prog) tab_ok n).2.2.2 _ _ _ _ hq
  · simp at h

def rdB (r : Nat) (T : ByteArray) (i ek ea : Int) : Blk := { cells := [.slc r 0 T.size T.size 1 false, .int .i64 i, .int .i64 ek, .int .i64 ea], st := .live }

/-- the reader at x stands at i of T; its error -/
structure PR (H : Heap) (x r : Nat) (T : ByteArray) (i ek ea : Int) : Prop where
  at_ : H[x]? = some (rdB r T i ek ea)
  ne : r ≠ x
  by_ : ∃ blk, H[r]? = some blk ∧ blk.cells = cellsOfStr T ∧ (blk.st = .live ∨ blk.st = .ro)

theorem PR.frame {S : Nat → Prop} {H H' : Heap} {x r : Nat} {T : ByteArray} {i ek ea : Int} (h : PR H x r T i ek ea) (hf : Fr S H H') (hx : ¬ S x) (hr : ¬ S r) : PR H' x r T i ek ea := by
  obtain ⟨h1, h2, blk, h3, h4⟩ := h
  exact ⟨by rw [hf.2 x (lt_of_get h1) hx]; exact h1, h2, blk, by rw [hf.2 r (lt_of_get h3) hr]; exact h3, h4⟩

theorem PR.app {H G : Heap} {x r : Nat} {T : ByteArray} {i ek ea : Int} (h : PR H x r T i ek ea) : PR (H ++ G) x r T i ek ea := by
  obtain ⟨h1, h2, blk, h3, h4⟩ := h
  exact ⟨get_push h1, h2, blk, get_push h3, h4⟩

theorem PR.move {H : Heap} {x r : Nat} {T : ByteArray} {i ek ea : Int} (h : PR H x r T i ek ea) (j ek' ea' : Int) : PR (H.set x (rdB r T j ek' ea')) x r T j ek' ea' := by
  obtain ⟨h1, h2, blk, h3, h4⟩ := h
  exact ⟨by rw [List.getElem?_set_self (lt_of_get h1)], h2, blk, by rw [List.getElem?_set_ne (Ne.symm h2)]; exact h3, h4⟩

theorem PR.byte {H : Heap} {x r : Nat} {T : ByteArray} {i ek ea : Int} (h : PR H x r T i ek ea) {k : Nat} {c : UInt8} (hc : T.data.toList[k]? = some c) : ldB H[r]? k 1 = some [.int .u8 c.toNat] := by
  obtain ⟨h1, h2, blk, h3, h4, h5⟩ := h
  have := ld_byte h3 h4 h5 hc
  rwa [ld_eq] at this

theorem PR.lt {H : Heap} {x r : Nat} {T : ByteArray} {i ek ea : Int} (h : PR H x r T i ek ea) : x < H.length := lt_of_get h.at_

/-- the byte at a place; 0 behind the end -/
def byteAt (T : ByteArray) (i : Nat) : UInt8 := (T.data.toList[i]?).getD 0
theorem byteAt_of {T : ByteArray} {i : Nat} {c : UInt8} (h : T.data.toList[i]? = some c) : byteAt T i = c := by simp [byteAt, h]
theorem toList_at {T : ByteArray} {i : Nat} (h : i < T.size) : T.data.toList[i]? = some (byteAt T i) := by
  have hlt : i < T.data.toList.length := h
  simp [byteAt, List.getElem?_eq_getElem hlt]

section
variable {H : Heap} {x r : Nat} {T : ByteArray} {i : Nat} {ek ea : Int}

theorem bad_run (h : PR H x r T i ek ea) : den Tryd.prog hookG 31 [.ptr x 0] H = some (.bool (!decide (ek = 0)), H) := by
  have h1 := h.at_
  simp only [rdB] at h1
  rw [den_of (hG (by decide) (by decide) (by decide) _ _) k31 (by simp [c31])]
  simp [c31, c31.body, h1]

theorem next_run (h : PR H x r T i ek ea) : den Tryd.prog hookG 48 [.ptr x 0] H = some (.int .u8 (byteAt T i).toNat, H) := by
  have h1 := h.at_
  simp only [rdB] at h1
  rw [den_of (hG (by decide) (by decide) (by decide) _ _) k48 (by simp [c48])]
  by_cases hi : i < T.size
  · have hb := h.byte (toList_at hi)
    have hiI : (i : Int) < T.size := by omega
    simp [c48, c48.body, h1, hi, hiI, hb]
  · have hiI : ¬ (i : Int) < T.size := by omega
    have hb : byteAt T i = 0 := by
      have : T.data.toList[i]? = none := List.getElem?_eq_none (by have : T.data.toList.length = T.size := rfl; omega)
      simp [byteAt, this]
    simp [c48, c48.body, h1, hi, hiI, hb]

theorem fail_run (h : PR H x r T i 0 0) (k a : Int) : den Tryd.prog hookG 30 [.ptr x 0, .int .i64 k, .int .i64 a] H = some (.tup [], H.set x (rdB r T i k a)) := by
  have h1 := h.at_
  have hlt := h.lt
  simp only [rdB] at h1
  rw [den_of (hG (by decide) (by decide) (by decide) _ _) k30 (by simp [c30])]
  simp [c30, c30.body, h1, rdB]

theorem fail_more (h : PR H x r T i ek ea) (he : ek ≠ 0) (k a : Int) : den Tryd.prog hookG 30 [.ptr x 0, .int .i64 k, .int .i64 a] H = some (.tup [], H) := by
  have h1 := h.at_
  simp only [rdB] at h1
  rw [den_of (hG (by decide) (by decide) (by decide) _ _) k30 (by simp [c30])]
  simp [c30, c30.body, h1, he]

/-- where skipping stops -/
def stopB (T : ByteArray) (i : Nat) : Prop := T.size ≤ i ∨ blank (byteAt T i) = false ∧ byteAt T i ≠ 35 ∧ byteAt T i ≠ 47

theorem blanks_stop (h : PR H x r T i 0 ea) (hs : stopB T i) : den Tryd.prog hookG 29 [.ptr x 0] H = some (.tup [], H) := by
  have hbad := bad_run h
  have h1 := h.at_
  simp only [rdB] at h1
  simp only [decide_true, Bool.not_true] at hbad
  rw [den_of (hG (by decide) (by decide) (by decide) _ _) k29 (by simp [c29])]
  by_cases hi : i < T.size
  · have hb := h.byte (toList_at hi)
    rcases hs with hs | ⟨s1, s2, s3⟩
    · omega
    · simp only [blank, Bool.or_eq_false_iff, beq_eq_false_iff_ne] at s1
      obtain ⟨⟨⟨b1, b2⟩, b3⟩, b4⟩ := s1
      have ne : ∀ (n : Nat), n < 256 → byteAt T i ≠ UInt8.ofNat n → ((byteAt T i).toNat : Int) ≠ n := by
        intro n hn hne h
        apply hne
        apply UInt8.toNat_inj.1
        simp
        omega
      have n1 := ne 32 (by decide) b1
      have n2 := ne 9 (by decide) b2
      have n3 := ne 10 (by decide) b3
      have n4 := ne 13 (by decide) b4
      have n5 := ne 35 (by decide) s2
      have n6 := ne 47 (by decide) s3
      simp at n1 n2 n3 n4 n5 n6
      have hiI : (i : Int) < T.size := by omega
      have key : ∃ e', dCode Tryd.prog hookG c29.l0 (initEnv [.ptr x 0]) H = some (.ret, e', H) := by
        simp [c29.l0, hbad, h1, hi, hiI, hb, n1, n2, n3, n4, n5, n6]
      obtain ⟨e', k⟩ := key
      simp [c29, c29.body]
      rw [loop_step, k]
      simp [next_ret]
  · have hiI : ¬ (i : Int) < T.size := by omega
    have key : ∃ e', dCode Tryd.prog hookG c29.l0 (initEnv [.ptr x 0]) H = some (.exit 0, e', H) := by
      simp [c29.l0, hbad, h1, hi, hiI]
    obtain ⟨e', k⟩ := key
    simp [c29, c29.body]
    rw [loop_step, k]
    simp [next_exit]

theorem blanks_bad (h : PR H x r T i ek ea) (he : ek ≠ 0) : den Tryd.prog hookG 29 [.ptr x 0] H = some (.tup [], H) := by
  have hbad := bad_run h
  simp only [he, decide_false, Bool.not_false] at hbad
  rw [den_of (hG (by decide) (by decide) (by decide) _ _) k29 (by simp [c29])]
  have key : ∃ e', dCode Tryd.prog hookG c29.l0 (initEnv [.ptr x 0]) H = some (.exit 0, e', H) := by
    simp [c29.l0, hbad]
  obtain ⟨e', k⟩ := key
  simp [c29, c29.body]
  rw [loop_step, k]
  simp [next_exit]
end

end Go.Cn.D

/- The program's reader of JSON: signs and texts of ASCII. -/
namespace Go.Cn.D
open Go.Proofs
set_option maxRecDepth 100000

theorem wrap_byte : ∀ n : Fin 256, IntKind.i32.wrap (n.val : Int) = n.val ∧ IntKind.u32.wrap (n.val : Int) = n.val ∧ IntKind.u8.wrap (n.val : Int) = n.val := by decide
theorem w_i32 (c : UInt8) : IntKind.i32.wrap (c.toNat : Int) = c.toNat := (wrap_byte ⟨c.toNat, c.toNat_lt⟩).1
theorem w_u32 (c : UInt8) : IntKind.u32.wrap (c.toNat : Int) = c.toNat := (wrap_byte ⟨c.toNat, c.toNat_lt⟩).2.1
theorem w_u8 (c : UInt8) : IntKind.u8.wrap (c.toNat : Int) = c.toNat := (wrap_byte ⟨c.toNat, c.toNat_lt⟩).2.2

theorem decode_ascii {H : Heap} {r o n cap : Nat} {ex : Bool} {c : UInt8} (hn : 0 < n) (hc : c.toNat < 128) (hb : ldB H[r]? o 1 = some [.int .u8 c.toNat]) :
    den Tryd.prog hookG 84 [.slc r o n cap 1 ex] H = some (.tup [.int .i32 c.toNat, .int .i64 1], H) := by
  rw [den_of (hG (by decide) (by decide) (by decide) _ _) k84 (by simp [c84])]
  have hcI : (c.toNat : Int) < 128 := by omega
  have hw : IntKind.i32.wrap (c.toNat : Int) = c.toNat := w_i32 c
  have key : ∀ e : Env, e 6 = .slc r o n cap 1 ex → e 7 = .int .i64 n → e 8 = .int .i64 (0 : Int) → ∃ e', dCode Tryd.prog hookG c84.l0 e H = some (.ret, e', H) ∧ e' 2 = .int .i32 c.toNat ∧ e' 3 = .int .i64 1 := by
    intro e h6 h7 h8
    simp [c84.l0, h6, h7, h8, hn, hb, hcI, hw]
  obtain ⟨F, hF⟩ := choose_fn (p := fun (e : Env) (e' : Env) => e 6 = .slc r o n cap 1 ex → e 7 = .int .i64 n → e 8 = .int .i64 (0 : Int) → dCode Tryd.prog hookG (.loop c84.l0) e H = some (.ret, e', H) ∧ e' 2 = .int .i32 c.toNat ∧ e' 3 = .int .i64 1) fun e => by
    by_cases hq : e 6 = .slc r o n cap 1 ex ∧ e 7 = .int .i64 n ∧ e 8 = .int .i64 (0 : Int)
    · obtain ⟨e', k, a⟩ := key e hq.1 hq.2.1 hq.2.2
      exact ⟨e', fun _ _ _ => ⟨by rw [loop_step, k, next_ret], a⟩⟩
    · exact ⟨e, fun a b c => absurd ⟨a, b, c⟩ hq⟩
  have f1 := fun e a b c => (hF e a b c).1
  have f2 := fun e a b c => (hF e a b c).2.1
  have f3 := fun e a b c => (hF e a b c).2.2
  simp [c84, c84.body, c84.s0, f1, f2, f3]

theorem sign_ascii {H : Heap} {x r : Nat} {T : ByteArray} {i : Nat} {ea : Int} {c : UInt8} (h : PR H x r T i 0 ea) (hi : i < T.size) (hb : byteAt T i = c) (h32 : 32 ≤ c.toNat) (hc : c.toNat < 128) (h92 : c.toNat ≠ 92) (hT : T.size < 2 ^ 62) :
    den Tryd.prog hookG 71 [.ptr x 0] H = some (.int .i32 c.toNat, H.set x (rdB r T ((i + 1 : Nat) : Int) 0 ea)) := by
  have h1 := h.at_
  have hlt := h.lt
  have hby := h.byte (toList_at hi)
  rw [hb] at hby
  simp only [rdB] at h1
  rw [den_of (hG (by decide) (by decide) (by decide) _ _) k71 (by simp [c71])]
  have hd := decode_ascii (H := H) (r := r) (o := i) (n := T.size - i) (cap := T.size - i) (ex := false) (by omega) hc hby
  have hiI : (i : Int) ≤ T.size := by omega
  have n32 : ¬ (c.toNat : Int) < 32 := by omega
  have n92 : ¬ (c.toNat : Int) = 92 := by omega
  have nfd : ¬ (c.toNat : Int) = 65533 := by omega
  have hw : IntKind.i64.wrap ((i : Int) + 1) = ((i + 1 : Nat) : Int) := by rw [IntKind.wrap_i64]; omega
  simp [c71, c71.body, h1, exec, boundO, bound, hiI, hd, n32, n92, nfd, hw, rdB]

def byteCs (l : List UInt8) : List (List CV) := l.map fun b => [.int .u8 b.toNat]
theorem byteCs_len {l : List UInt8} : (byteCs l).length = l.length := by simp [byteCs]

theorem append_ascii {H : Heap} {cv : CV} {l : List UInt8} {g : Option Nat} {c : UInt8} (hO : Ow H 5 1 cv (byteCs l) g) (hc : c.toNat < 128) (hl : l.length < 2 ^ 39) :
    ∃ H', den Tryd.prog hookG 70 [cv, .int .i32 c.toNat] H = some (.slc (H.length + 1) 0 (l.length + 1) (l.length + 1) 1 false, H') ∧ Ow H' 5 1 (.slc (H.length + 1) 0 (l.length + 1) (l.length + 1) 1 false) (byteCs (l ++ [c])) (some (H.length + 1)) ∧ Fr (fun b => g = some b) H H' := by
  have hs : (H ++ [({ cells := [.int .u8 c.toNat], st := .live } : Blk)]).ld H.length 0 1 = some [.int .u8 c.toNat] := by
    rw [ld_of (blk := { cells := [.int .u8 c.toNat], st := .live }) (by simp) (.inl rfl) (by simp)]; rfl
  obtain ⟨H', ha, hO', hl', hF⟩ := (hO.app (G := [{ cells := [.int .u8 c.toNat], st := .live }])).one (bytes := 1) (cap := 1) (ex := true) hs (by rw [byteCs_len]; unfold capB; omega)
  have e1 : (H ++ [({ cells := [.int .u8 c.toNat], st := .live } : Blk)]).length = H.length + 1 := by simp
  rw [e1, byteCs_len] at ha hO'
  have hcI : (c.toNat : Int) ≤ 127 := by omega
  have w1 := w_u32 c
  have w2 := w_u8 c
  refine ⟨H', ?_, by simpa [byteCs] using hO', (Fr.push _).trans hF fun _ _ h => h⟩
  rw [den_of (hG (by decide) (by decide) (by decide) _ _) k70 (by simp [c70])]
  simp [c70, c70.body, w1, w2, hcI, ha]

/-- signs that stand for themselves -/
def plainB (c : UInt8) : Bool := decide (32 ≤ c.toNat ∧ c.toNat < 128 ∧ c.toNat ≠ 34 ∧ c.toNat ≠ 92)

theorem text_round {H0 H : Heap} {x r : Nat} {T : ByteArray} {i : Nat} {cv : CV} {l : List UInt8} {g : Option Nat} {e : Env} {c : UInt8} {ea : Int} (h : PR H x r T i 0 ea) (hF : Fr (fun b => b = x) H0 H) (hx : x < H0.length) (hr : r < H0.length) (hO : Ow H 5 1 cv (byteCs l) g) (hg : ∀ b, g = some b → H0.length ≤ b) (hi : i < T.size) (hb : byteAt T i = c) (hp : plainB c = true) (hT : T.size < 2 ^ 39) (hl : l.length < 2 ^ 39)
    (e0 : e 0 = .ptr x 0) (e4 : e 4 = cv) :
    ∃ e' H' cv' g', dCode Tryd.prog hookG c50.l0 e H = some (.normal, e', H') ∧ PR H' x r T ((i + 1 : Nat) : Int) 0 ea ∧ Fr (fun b => b = x) H0 H' ∧ Ow H' 5 1 cv' (byteCs (l ++ [c])) g' ∧ (∀ b, g' = some b → H0.length ≤ b) ∧ e' 0 = .ptr x 0 ∧ e' 4 = cv' ∧ e' 3 = e 3 := by
  simp only [plainB, decide_eq_true_eq] at hp
  have hbad := bad_run h
  have hnext := next_run h
  simp only [decide_true, Bool.not_true] at hbad
  rw [hb] at hnext
  have hs := sign_ascii h hi hb hp.1 hp.2.1 hp.2.2.2 (by omega)
  have h2 := h.move ((i + 1 : Nat) : Int) 0 ea
  have gx : g ≠ some x := fun e => by have := hg x e; omega
  have gr : g ≠ some r := fun e => by have := hg r e; omega
  have O2 : Ow (H.set x (rdB r T ((i + 1 : Nat) : Int) 0 ea)) 5 1 cv (byteCs l) g := hO.mono fun b hb => List.getElem?_set_ne (fun e => gx (hb.trans (by rw [e])))
  obtain ⟨H', ha, O3, F3⟩ := append_ascii O2 hp.2.1 hl
  have h1 := h.at_
  simp only [rdB] at h1
  have hiI : ¬ (T.size : Int) ≤ i := by omega
  have hin : ¬ T.size ≤ i := by omega
  have n34 : ¬ (c.toNat : Int) = 34 := by have := hp.2.2.1; omega
  simp only [List.length_set] at ha O3
  have key : ∃ e', dCode Tryd.prog hookG c50.l0 e H = some (.normal, e', H') ∧ e' 0 = .ptr x 0 ∧ e' 4 = .slc (H.length + 1) 0 (l.length + 1) (l.length + 1) 1 false ∧ e' 3 = e 3 := by
    push_cast at hs ha
    simp [c50.l0, e0, e4, hbad, hnext, n34, h1, hin, hs, ha]
  obtain ⟨e', k1, k2, k3, k4⟩ := key
  have F2 : Fr (fun b => b = x) H0 (H.set x (rdB r T ((i + 1 : Nat) : Int) 0 ea)) := hF.trans (Fr.set (S := fun b => b = x) rfl) fun _ _ h => h
  have F4 : Fr (fun b => b = x) H0 H' := F2.trans F3 fun b hb hh => by have := hg b hh; omega
  refine ⟨e', H', _, _, k1, h2.frame F3 gx gr, F4, O3, fun b hb => ?_, k2, k3, k4⟩
  simp at hb
  have := hF.1
  omega

end Go.Cn.D

/- The program's reader of JSON: a text; what stands between values. -/
namespace Go.Cn.D
open Go.Proofs
set_option maxRecDepth 100000

theorem text_loop {H0 : Heap} {x r : Nat} {T : ByteArray} {ea : Int} {s : List UInt8} (hx : x < H0.length) (hr : r < H0.length) (hp : ∀ c ∈ s, plainB c = true) (hT : T.size < 2 ^ 38) (hsl : s.length < 2 ^ 38) : ∀ (n k : Nat) (i : Nat) (e : Env) (H : Heap) (cv : CV) (g : Option Nat), k + n = s.length → i + n < T.size → (∀ q, q < n → byteAt T (i + q) = (s[k + q]?).getD 0) → byteAt T (i + n) = 34 →
    PR H x r T i 0 ea → Fr (fun b => b = x) H0 H → Ow H 5 1 cv (byteCs (s.take k)) g → (∀ b, g = some b → H0.length ≤ b) → e 0 = .ptr x 0 → e 4 = cv →
    ∃ e' H' cv' g', dCode Tryd.prog hookG (.loop c50.l0) e H = some (.exit 0, e', H') ∧ PR H' x r T ((i + n : Nat) : Int) 0 ea ∧ Fr (fun b => b = x) H0 H' ∧ Ow H' 5 1 cv' (byteCs s) g' ∧ (∀ b, g' = some b → H0.length ≤ b) ∧ e' 0 = .ptr x 0 ∧ e' 4 = cv' ∧ e' 3 = e 3 := by
  intro n
  induction n with
  | zero =>
    intro k i e H cv g hk hi hs hq h hF hO hg e0 e4
    have hbad := bad_run h
    have hnext := next_run h
    simp only [decide_true, Bool.not_true] at hbad
    simp only [Nat.add_zero] at hq
    rw [hq] at hnext
    have key : ∃ e', dCode Tryd.prog hookG c50.l0 e H = some (.exit 0, e', H) ∧ e' 0 = e 0 ∧ e' 4 = e 4 ∧ e' 3 = e 3 := by
      simp [c50.l0, e0, hbad, hnext]
    obtain ⟨e', k1, k2, k3, k4⟩ := key
    refine ⟨e', H, cv, g, by rw [loop_step, k1, next_exit], by simpa using h, hF, ?_, hg, by rw [k2, e0], by rw [k3, e4], k4⟩
    rw [List.take_of_length_le (by omega)] at hO
    exact hO
  | succ n ih =>
    intro k i e H cv g hk hi hs hq h hF hO hg e0 e4
    have hkl : k < s.length := by omega
    have hc : byteAt T i = s[k] := by
      have := hs 0 (by omega)
      simpa [List.getElem?_eq_getElem hkl] using this
    obtain ⟨e1, H1, cv1, g1, k1, P1, F1, O1, hg1, f0, f4, f3⟩ := text_round h hF hx hr hO hg (by omega) hc (hp _ (List.getElem_mem hkl)) (by omega) (by simp; omega) e0 e4
    have htk : s.take (k + 1) = s.take k ++ [s[k]] := by rw [List.take_succ_eq_append_getElem hkl]
    rw [← htk] at O1
    obtain ⟨e2, H2, cv2, g2, k2, P2, F2, O2, hg2, d0, d4, d3⟩ := ih (k + 1) (i + 1) e1 H1 cv1 g1 (by omega) (by omega) (fun q hq' => by
      have := hs (q + 1) (by omega)
      rw [show i + 1 + q = i + (q + 1) by omega, show k + 1 + q = k + (q + 1) by omega]
      exact this) (by rw [show i + 1 + n = i + (n + 1) by omega]; exact hq) P1 F1 O1 hg1 f0 f4
    exact ⟨e2, H2, cv2, g2, by rw [loop_step, k1, next_normal, k2], by rw [show i + (n + 1) = i + 1 + n by omega]; exact P2, F2, O2, hg2, d0, d4, by rw [d3, f3]⟩

theorem toL_bs (l : List UInt8) : (⟨l.toArray⟩ : ByteArray).data.toList = l := by simp

theorem flat_bytes {l : List UInt8} : (byteCs l).flatten = cellsOfStr ⟨l.toArray⟩ := by
  have : ∀ l : List UInt8, (byteCs l).flatten = l.map fun b => CV.int .u8 b.toNat := by
    intro l
    induction l with
    | nil => rfl
    | cons c l ih => simp only [byteCs] at ih; simp [byteCs, ih]
  rw [this]
  simp [cellsOfStr]

/-- what a text that is read leaves: its error, if it is too long -/
def longE (n : Nat) : Int := if 255 < n then 2 else 0
def longA (n from_ : Nat) : Int := if 255 < n then from_ else 0

theorem text_run {H : Heap} {x r : Nat} {T : ByteArray} {s : List UInt8} {i j : Nat} (h : PR H x r T i 0 0) (hp : ∀ c ∈ s, plainB c = true) (hT : T.size < 2 ^ 38) (hi : i + 1 + s.length < T.size) (hs : ∀ q, q < s.length → byteAt T (i + 1 + q) = (s[q]?).getD 0) (hq : byteAt T (i + 1 + s.length) = 34) (hj : j = i + s.length + 2) :
    ∃ H', den Tryd.prog hookG 50 [.ptr x 0] H = some (.str ⟨s.toArray⟩, H') ∧ PR H' x r T j (longE s.length) (longA s.length i) ∧ Fr (fun b => b = x) H H' := by
  have h1 := h.at_
  have hlt := h.lt
  have hrl : r < H.length := by obtain ⟨blk, hb, _⟩ := h.by_; exact lt_of_get hb
  obtain ⟨i1, hi1⟩ : ∃ i1, i1 = i + 1 := ⟨_, rfl⟩
  obtain ⟨m, hm⟩ : ∃ m, m = i1 + s.length := ⟨_, rfl⟩
  have h2 := h.move i1 0 0
  have hw : IntKind.i64.wrap ((i : Int) + 1) = (i1 : Int) := by rw [IntKind.wrap_i64]; omega
  have hF1 : Fr (fun b => b = x) H (H.set x (rdB r T i1 0 0)) := Fr.set rfl
  have main : ∀ e : Env, e 0 = .ptr x 0 → e 3 = .int .i64 i → e 4 = .nils → ∃ H', fin c50.res (dCode Tryd.prog hookG c50.s0 e (H.set x (rdB r T i1 0 0))) = some (.str ⟨s.toArray⟩, H') ∧ PR H' x r T j (longE s.length) (longA s.length i) ∧ Fr (fun b => b = x) H H' := by
    intro e e0 e3 e4
    obtain ⟨e1, H1, cv, g, k1, P1, F1, O1, hg, f0, f4, f3⟩ := text_loop hlt hrl hp hT (by omega) s.length 0 i1 e _ .nils none (by omega) (by omega) (fun q hq => by rw [Nat.zero_add, hi1]; exact hs q hq) (by rw [hi1]; exact hq) h2 hF1 (by simpa [byteCs] using Ow.nil) (by simp) e0 e4
    rw [← hm] at P1
    have p1 := P1.at_
    have plt := P1.lt
    have hw2 : IntKind.i64.wrap ((m : Int) + 1) = (j : Int) := by rw [IntKind.wrap_i64]; omega
    have P2 := P1.move j 0 0
    have gx : g ≠ some x := fun e => by have := hg x e; omega
    have gl := fun h => O1.len (h := h)
    simp only [byteCs_len] at gl
    have O2 : ∀ b, Ow (H1.set x b) 5 1 cv (byteCs s) g := fun b => O1.mono fun c hc => List.getElem?_set_ne (fun e => gx (hc.trans (by rw [e])))
    have src : ∀ b, srcCells (H1.set x b) 1 false cv = some (cellsOfStr ⟨s.toArray⟩, s.length) := fun b => by
      have := ((O2 b).sl (S := fun _ => False) fun _ _ => id).src (.inl rfl)
      rw [flat_bytes, byteCs_len] at this
      exact this
    have bc := bytes_cells ⟨s.toArray⟩
    have F3 : Fr (fun b => b = x) H (H1.set x (rdB r T j 0 0)) := F1.trans (Fr.set (S := fun b => b = x) rfl) fun _ _ h => h
    simp only [rdB] at p1 k1
    by_cases hl : 255 < s.length
    · have hf := fail_run P2 2 i
      have P3 := P2.move j 2 i
      refine ⟨_, ?_, by simpa [longE, longA, hl] using P3, F3.trans (Fr.set (S := fun b => b = x) rfl) fun _ _ h => h⟩
      have hlI : (255 : Int) < s.length := by omega
      simp only [rdB] at hf ⊢
      simp [c50.s0, c50, k1, f0, f3, f4, e3, p1, hw2, gl, hlI, hf, src, bstrOf, bc]
    · have hlI : ¬ (255 : Int) < s.length := by omega
      refine ⟨_, ?_, by simpa [longE, longA, hl] using P2, F3⟩
      simp only [rdB]
      simp [c50.s0, c50, k1, f0, f3, f4, e3, p1, hw2, gl, hlI, src, bstrOf, bc]
  simp only [rdB] at h1
  rw [den_of (hG (by decide) (by decide) (by decide) _ _) k50 (by simp [c50])]
  simp only [rdB] at main
  simp [c50, c50.body, h1, hw]
  exact main _ (by simp) (by simp) (by simp)

/-! ### what stands between values -/

theorem plain_stop {T : ByteArray} {i : Nat} {c : UInt8} (h : byteAt T i = c) (hc : blank c = false ∧ c ≠ 35 ∧ c ≠ 47) : stopB T i := .inr (by rw [h]; exact hc)

section
variable {H : Heap} {x r : Nat} {T : ByteArray} {i j : Nat}

/-- behind a value: the end of the list, or of the map -/
theorem more_end {c : UInt8} (h : PR H x r T i 0 0) (hi : i < T.size) (hb : byteAt T i = c) (hc : blank c = false ∧ c ≠ 35 ∧ c ≠ 47) (h44 : c.toNat ≠ 44) (hj : j = i + 1) (hT : T.size < 2 ^ 38) :
    den Tryd.prog hookG 75 [.ptr x 0, .int .u8 c.toNat] H = some (.bool false, H.set x (rdB r T j 0 0)) := by
  have hbl := blanks_stop h (plain_stop hb hc)
  have hbad := bad_run h
  have hnext := next_run h
  simp only [decide_true, Bool.not_true] at hbad
  rw [hb] at hnext
  have h1 := h.at_
  simp only [rdB] at h1 ⊢
  have hw : IntKind.i64.wrap ((i : Int) + 1) = (j : Int) := by rw [IntKind.wrap_i64]; omega
  have n44 : ¬ (c.toNat : Int) = 44 := by omega
  have hiI : (i : Int) < T.size := by omega
  rw [den_of (hG (by decide) (by decide) (by decide) _ _) k75 (by simp [c75])]
  simp [c75, c75.body, hbl, hbad, hnext, n44, h1, hi, hiI, hw]

theorem more_bad {c : UInt8} {ek ea : Int} (h : PR H x r T i ek ea) (he : ek ≠ 0) : den Tryd.prog hookG 75 [.ptr x 0, .int .u8 c.toNat] H = some (.bool false, H) := by
  have hbl := blanks_bad h he
  have hbad := bad_run h
  simp only [he, decide_false, Bool.not_false] at hbad
  rw [den_of (hG (by decide) (by decide) (by decide) _ _) k75 (by simp [c75])]
  simp [c75, c75.body, hbl, hbad]

theorem empty_end {c : UInt8} (h : PR H x r T i 0 0) (hi : i < T.size) (hb : byteAt T i = c) (hc : blank c = false ∧ c ≠ 35 ∧ c ≠ 47) (hj : j = i + 1) (hT : T.size < 2 ^ 38) :
    den Tryd.prog hookG 74 [.ptr x 0, .int .u8 c.toNat] H = some (.bool true, H.set x (rdB r T j 0 0)) := by
  have hbl := blanks_stop h (plain_stop hb hc)
  have hbad := bad_run h
  have hnext := next_run h
  simp only [decide_true, Bool.not_true] at hbad
  rw [hb] at hnext
  have h1 := h.at_
  simp only [rdB] at h1 ⊢
  have hw : IntKind.i64.wrap ((i : Int) + 1) = (j : Int) := by rw [IntKind.wrap_i64]; omega
  have hin : ¬ T.size ≤ i := by omega
  rw [den_of (hG (by decide) (by decide) (by decide) _ _) k74 (by simp [c74])]
  simp [c74, c74.body, hbl, hbad, hnext, h1, hin, hw]

theorem empty_no {c d : UInt8} (h : PR H x r T i 0 0) (hb : byteAt T i = d) (hc : blank d = false ∧ d ≠ 35 ∧ d ≠ 47) (hcd : d.toNat ≠ c.toNat) :
    den Tryd.prog hookG 74 [.ptr x 0, .int .u8 c.toNat] H = some (.bool false, H) := by
  have hbl := blanks_stop h (plain_stop hb hc)
  have hbad := bad_run h
  have hnext := next_run h
  simp only [decide_true, Bool.not_true] at hbad
  rw [hb] at hnext
  have h1 := h.at_
  simp only [rdB] at h1
  have ncd : ¬ (d.toNat : Int) = c.toNat := by omega
  rw [den_of (hG (by decide) (by decide) (by decide) _ _) k74 (by simp [c74])]
  simp [c74, c74.body, hbl, hbad, hnext, ncd]
end

end Go.Cn.D

/- The program's reader of JSON: the number 1; names; values. -/
namespace Go.Cn.D
open Go.Proofs
set_option maxRecDepth 100000

theorem parse1 (H : Heap) : den Tryd.prog hookG 72 [.str (bs [49]), .int .i64 10, .int .i64 64] H = some (.tup [.int .i64 1, .nili], H) := by
  obtain ⟨h', hd⟩ := den_closed (f := 72) (a := [.str (bs [49]), .int .i64 10, .int .i64 64]) (v := .tup [.int .i64 1, .nili]) (n := 1000) (by decide +kernel)
  exact denGp rfl (by decide) rfl rfl hd

theorem digit_yes (H : Heap) : den Tryd.prog hookG 51 [.int .u8 49] H = some (.bool true, H) := by
  obtain ⟨h', hd⟩ := den_closed (f := 51) (a := [.int .u8 49]) (v := .bool true) (n := 1000) (by decide +kernel)
  exact denGp rfl (by decide) rfl rfl hd

/-- what may stand behind a number, here -/
def behind (c : UInt8) : Prop := c = 0 ∨ c = 125 ∨ c = 93

theorem digit_no {c : UInt8} (h : behind c) (H : Heap) : den Tryd.prog hookG 51 [.int .u8 c.toNat] H = some (.bool false, H) := by
  rcases h with rfl | rfl | rfl
  · obtain ⟨h', hd⟩ := den_closed (f := 51) (a := [.int .u8 0]) (v := .bool false) (n := 1000) (by decide +kernel)
    exact denGp rfl (by decide) rfl rfl hd
  · obtain ⟨h', hd⟩ := den_closed (f := 51) (a := [.int .u8 125]) (v := .bool false) (n := 1000) (by decide +kernel)
    exact denGp rfl (by decide) rfl rfl hd
  · obtain ⟨h', hd⟩ := den_closed (f := 51) (a := [.int .u8 93]) (v := .bool false) (n := 1000) (by decide +kernel)
    exact denGp rfl (by decide) rfl rfl hd

theorem tied_no {c : UInt8} (h : behind c) (H : Heap) : den Tryd.prog hookG 73 [.int .u8 c.toNat] H = some (.bool false, H) := by
  rcases h with rfl | rfl | rfl
  · obtain ⟨h', hd⟩ := den_closed (f := 73) (a := [.int .u8 0]) (v := .bool false) (n := 1000) (by decide +kernel)
    exact denGp rfl (by decide) rfl rfl hd
  · obtain ⟨h', hd⟩ := den_closed (f := 73) (a := [.int .u8 125]) (v := .bool false) (n := 1000) (by decide +kernel)
    exact denGp rfl (by decide) rfl rfl hd
  · obtain ⟨h', hd⟩ := den_closed (f := 73) (a := [.int .u8 93]) (v := .bool false) (n := 1000) (by decide +kernel)
    exact denGp rfl (by decide) rfl rfl hd

theorem number_one {H : Heap} {x r : Nat} {T : ByteArray} {i j : Nat} {c : UInt8} (h : PR H x r T i 0 0) (hi : i < T.size) (hb : byteAt T i = 49) (hj : j = i + 1) (hc : byteAt T j = c) (hbe : behind c) (hT : T.size < 2 ^ 38) :
    den Tryd.prog hookG 52 [.ptr x 0] H = some (.int .i64 1, H.set x (rdB r T j 0 0)) := by
  have hnext := next_run h
  rw [hb] at hnext
  have h2 := h.move j 0 0
  have hnext2 := next_run h2
  rw [hc] at hnext2
  have h1 := h.at_
  have hlt := h.lt
  have hw : IntKind.i64.wrap ((i : Int) + 1) = (j : Int) := by rw [IntKind.wrap_i64]; omega
  have hby := h2.byte (toList_at hi)
  rw [hb] at hby
  have dn := fun H => digit_no hbe H
  have tn := fun H => tied_no hbe H
  have key : ∀ e : Env, e 0 = .ptr x 0 → ∃ e', dCode Tryd.prog hookG (.loop c52.l0) e H = some (.exit 0, e', H.set x (rdB r T j 0 0)) ∧ e' 0 = .ptr x 0 ∧ e' 3 = e 3 ∧ e' 4 = e 4 := by
    intro e e0
    have k1 : ∃ e', dCode Tryd.prog hookG c52.l0 e H = some (.normal, e', H.set x (rdB r T j 0 0)) ∧ e' 0 = .ptr x 0 ∧ e' 3 = e 3 ∧ e' 4 = e 4 := by
      simp only [rdB] at h1 ⊢
      have dy := digit_yes
      simp at hnext
      simp [c52.l0, e0, hnext, dy, h1, hw]
    obtain ⟨e1, a1, a2, a3, a4⟩ := k1
    have k2 : ∃ e', dCode Tryd.prog hookG c52.l0 e1 (H.set x (rdB r T j 0 0)) = some (.exit 0, e', H.set x (rdB r T j 0 0)) ∧ e' 0 = .ptr x 0 ∧ e' 3 = e1 3 ∧ e' 4 = e1 4 := by
      simp [c52.l0, a2, hnext2, dn]
    obtain ⟨e2, b1, b2, b3, b4⟩ := k2
    exact ⟨e2, by rw [loop_step, a1, next_normal, loop_step, b1, next_exit], b2, by rw [b3, a3], by rw [b4, a4]⟩
  obtain ⟨F, hF⟩ := choose_fn (p := fun (e : Env) (e' : Env) => e 0 = .ptr x 0 → dCode Tryd.prog hookG (.loop c52.l0) e H = some (.exit 0, e', H.set x (rdB r T j 0 0)) ∧ e' 0 = .ptr x 0 ∧ e' 3 = e 3 ∧ e' 4 = e 4) fun e => by
    by_cases hq : e 0 = .ptr x 0
    · obtain ⟨e', k⟩ := key e hq
      exact ⟨e', fun _ => k⟩
    · exact ⟨e, fun a => absurd a hq⟩
  have f1 := fun e a => (hF e a).1
  have f2 := fun e a => (hF e a).2.1
  have f3 := fun e a => (hF e a).2.2.1
  have f4 := fun e a => (hF e a).2.2.2
  have hiI : (i : Int) ≤ j := by omega
  have hjI : (j : Int) ≤ T.size := by omega
  have hij : j - i = 1 := by omega
  have hp := h2.at_
  have bc : bytesOf [CV.int .u8 49] = some (bs [49]) := rfl
  have hx : idxOf = idxOf := rfl
  have pr := parse1
  rw [den_of (hG (by decide) (by decide) (by decide) _ _) k52 (by simp [c52])]
  simp only [rdB] at h1 hp f1 hby hnext2 ⊢
  simp at hnext hby
  have e49 : ∀ h : Heap, idxOf h (bs [49]) 0 = some (.int .u8 49, h) := fun h => rfl
  have ne : ¬ (bs [49] = bs []) := by decide
  simp [c52, c52.body, c52.s0, hnext, h1, f1, f2, f3, f4, hp, exec, boundO, bound, hiI, hjI, hij, srcCells, hby, bstrOf, bc, pr, e49, ne, hnext2, tn]

end Go.Cn.D

/- The program's reader of JSON: names, values. -/
namespace Go.Cn.D
open Go.Proofs
set_option maxRecDepth 100000

theorem name_run {S : Nat → Prop} {H : Heap} {x r : Nat} {T : ByteArray} {kcv : CV} {ks : List ByteArray} {s : List UInt8} {i j : Nat} (h : PR H x r T i 0 0) (hk : Sl S H 1 kcv (strs ks)) (hSx : S x) (hno : ks.findIdx? (fun k => decide (k = ⟨s.toArray⟩)) = none) (hkl : ks.length < 2 ^ 62) (hp : ∀ c ∈ s, plainB c = true) (hT : T.size < 2 ^ 38) (hq0 : byteAt T i = 34) (hi : i + 1 + s.length < T.size) (hs : ∀ q, q < s.length → byteAt T (i + 1 + q) = (s[q]?).getD 0) (hq : byteAt T (i + 1 + s.length) = 34) (hj : j = i + s.length + 2) (hsl : s.length ≤ 255) :
    ∃ H', den Tryd.prog hookG 76 [.ptr x 0, kcv] H = some (.str ⟨s.toArray⟩, H') ∧ PR H' x r T j 0 0 ∧ Fr (fun b => b = x) H H' := by
  obtain ⟨H', dt, P', F'⟩ := text_run h hp hT hi hs hq hj
  have hl : ¬ 255 < s.length := by omega
  simp only [longE, longA, hl, if_false] at P'
  have hbl := blanks_stop h (plain_stop hq0 (by decide))
  have hbad := bad_run h
  have hnext := next_run h
  have hbad' := bad_run P'
  simp only [decide_true, Bool.not_true] at hbad hbad'
  rw [hq0] at hnext
  have h1 := h.at_
  have hix := index_run (s := ⟨s.toArray⟩) (hk.mono (H' := H') fun c hc hn => F'.2 c hc (fun e => hn (e ▸ hSx))) hkl
  rw [hno] at hix
  have hix := denG (by decide) (by decide) (by decide) hix
  have hct : den Tryd.prog hookG 88 [kcv, .str ⟨s.toArray⟩] H' = some (.bool false, H') := by
    rw [den_of (hG (by decide) (by decide) (by decide) _ _) k88 (by simp [c88])]
    simp [c88, c88.body, hix, optI]
  refine ⟨H', ?_, P', F'⟩
  rw [den_of (hG (by decide) (by decide) (by decide) _ _) k76 (by simp [c76])]
  simp only [rdB] at h1
  simp at hnext
  simp [c76, c76.body, hbl, h1, hbad, hnext, dt, hbad', hct]

def jB (i : Nat) : Blk := { cells := [.int .i64 0, .int .i64 0, .str (bs []), .nils, .nils, .int .i64 i], st := .live, ty := some 28 }
def zB : Blk := { cells := [.int .i64 0, .int .i64 0, .str (bs []), .nils, .nils, .int .i64 0], st := .live, ty := some 28 }

/-- what a value leaves -/
structure VE (H : Heap) (x r : Nat) (T : ByteArray) (j : Nat) (ek ea : Int) (cs : List CV) (H' : Heap) : Prop where
  pr : PR H' x r T j ek ea
  fr : Fr (fun b => b = x) H H'
  len : cs.length = 6

theorem value_one {H : Heap} {x r : Nat} {T : ByteArray} {d i j : Nat} {c : UInt8} (h : PR H x r T i 0 0) (hi : i < T.size) (hb : byteAt T i = 49) (hj : j = i + 1) (hc : byteAt T j = c) (hbe : behind c) (hT : T.size < 2 ^ 38) :
    ∃ cs H', den Tryd.prog hookG 28 [.ptr x 0, .int .i64 d] H = some (.agg cs, H') ∧ VE H x r T j 0 0 cs H' := by
  have hlt := h.lt
  have p0 : PR (H ++ [zB]) x r T i 0 0 := h.app
  have p1 : PR (H ++ [zB, jB i]) x r T i 0 0 := h.app
  have hbl := blanks_stop p0 (plain_stop hb (by decide))
  have hbad := bad_run p1
  have hnext := next_run p1
  have hnum := number_one p1 hi hb hj hc hbe hT
  simp only [decide_true, Bool.not_true] at hbad
  rw [hb] at hnext
  have q0 := p0.at_
  have dy := digit_yes
  have es : (H ++ [zB, jB i]).set x (rdB r T j 0 0) = H.set x (rdB r T j 0 0) ++ [zB, jB i] := List.set_append_left _ _ hlt
  rw [es] at hnum
  have hl : (H.set x (rdB r T j 0 0)).length = H.length := by simp
  have g0 : ∀ l, (H.set x (rdB r T j 0 0) ++ l)[H.length]? = l[0]? := fun l => by rw [← hl]; exact at_new0
  have g1 : ∀ l, (H.set x (rdB r T j 0 0) ++ l)[H.length + 1]? = l[1]? := fun l => by rw [← hl]; exact at_new
  have t0 : ∀ l b, (H.set x (rdB r T j 0 0) ++ l).set H.length b = H.set x (rdB r T j 0 0) ++ l.set 0 b := fun l b => by rw [← hl]; exact set_new0
  have t1 : ∀ l b, (H.set x (rdB r T j 0 0) ++ l).set (H.length + 1) b = H.set x (rdB r T j 0 0) ++ l.set 1 b := fun l b => by rw [← hl]; exact set_new
  let cs : List CV := [.int .i64 4, .int .i64 1, .str (bs []), .nils, .nils, .int .i64 i]
  let L : Heap := [{ cells := cs, st := .live, ty := some 28 }, { cells := cs, st := .live, ty := some 28 }]
  refine ⟨cs, H.set x (rdB r T j 0 0) ++ L, ?_, ⟨(h.move j 0 0).app, (Fr.set (S := fun b => b = x) rfl).trans (Fr.push _) fun _ _ h => h, rfl⟩⟩
  rw [den_of (hG (by decide) (by decide) (by decide) _ _) k28 (by simp [c28])]
  simp only [rdB] at q0 hnum g0 g1 t0 t1 ⊢
  simp only [zB, jB] at hbl hbad hnext hnum q0
  simp at hnext
  simp [c28, c28.body, hbl, q0, hbad, hnext, dy, hnum, g0, g1, t0, t1, cs, L]

end Go.Cn.D

/- The program's reader of JSON: lists, maps, texts as values. -/
namespace Go.Cn.D
open Go.Proofs
set_option maxRecDepth 100000

def okL (cv : CV) : Prop := cv = .nils ∨ ∃ g n m k ex, cv = .slc g 0 n m k ex

/-- a list of one value -/
theorem list_one {H H1 : Heap} {x r : Nat} {T : ByteArray} {d i j k : Nat} {ek ea : Int} {cs : List CV} {c : UInt8} (h : PR H x r T i 0 0) (hx : x < H.length) (hr : r < H.length) (hb : byteAt T i = c) (hc : blank c = false ∧ c ≠ 35 ∧ c ≠ 47) (h93 : c.toNat ≠ 93)
    (hv : den Tryd.prog hookG 28 [.ptr x 0, .int .i64 d] H = some (.agg cs, H1)) (V : VE H x r T j ek ea cs H1) (hend : ek ≠ 0 ∧ k = j ∨ ek = 0 ∧ ea = 0 ∧ j < T.size ∧ byteAt T j = 93 ∧ k = j + 1) (hT : T.size < 2 ^ 38) :
    ∃ g H', den Tryd.prog hookG 53 [.ptr x 0, .int .i64 d] H = some (.slc g 0 1 1 6 false, H') ∧ H'[g]? = some { cells := cs, st := .live, el := some 28 } ∧ H.length ≤ g ∧ PR H' x r T k ek ea ∧ Fr (fun b => b = x) H H' := by
  have hem := empty_no (c := 93) h hb hc h93
  have l1 := V.fr.1
  have hcl := V.len
  have hct : cs.take 6 = cs := List.take_of_length_le (Nat.le_of_eq hcl)
  let H2 : Heap := H1 ++ [{ cells := cs, st := .live }]
  let H3 : Heap := H2 ++ [{ cells := cs, st := .live, el := some 28 }]
  have P3 : PR H3 x r T j ek ea := V.pr.app.app
  have hld : H2.ld H1.length 0 6 = some cs := by
    rw [ld_of (blk := { cells := cs, st := .live }) (by simp [H2]) (.inl rfl) (by simp [hcl])]
    simp only [List.drop_zero]
    rw [hct]
  have happ : append H2 28 6 88 false .nils (.slc H1.length 0 1 1 6 true) = some (.slc (H1.length + 1) 0 1 1 6 false, H3) := by
    have : 88 ≤ capB := by unfold capB; omega
    have : 1 ≤ capB := by unfold capB; omega
    have hl2 : H2.length = H1.length + 1 := by simp [H2]
    simp only [append, srcCells, Nat.one_mul, hld]
    simp [*, H3]
  have F3 : Fr (fun b => b = x) H H3 := (V.fr.trans (Fr.push (S := fun b => b = x) [{ cells := cs, st := .live }]) fun _ _ h => h).trans (Fr.push _) fun _ _ h => h
  have hg3 : H3[H1.length + 1]? = some { cells := cs, st := .live, el := some 28 } := by simp [H3, H2]
  have main : ∀ K, den Tryd.prog hookG 75 [.ptr x 0, .int .u8 93] H3 = some (.bool false, K) → den Tryd.prog hookG 53 [.ptr x 0, .int .i64 d] H = some (.slc (H1.length + 1) 0 1 1 6 false, K) := by
    intro K hm
    have key : ∀ e : Env, e 0 = .ptr x 0 → e 1 = .int .i64 d → e 5 = .nils → ∃ e', dCode Tryd.prog hookG (.loop c53.l0) e H = some (.ret, e', K) ∧ e' 4 = .slc (H1.length + 1) 0 1 1 6 false := by
      intro e e0 e1 e5
      have k1 : ∃ e', dCode Tryd.prog hookG c53.l0 e H = some (.ret, e', K) ∧ e' 4 = .slc (H1.length + 1) 0 1 1 6 false := by
        simp only [H3, H2] at happ hm
        simp at hm
        simp [c53.l0, e0, e1, e5, hv, hcl, hct, happ, hm]
      obtain ⟨e', a, b⟩ := k1
      exact ⟨e', by rw [loop_step, a, next_ret], b⟩
    obtain ⟨F, hF⟩ := choose_fn (p := fun (e : Env) (e' : Env) => e 0 = .ptr x 0 → e 1 = .int .i64 d → e 5 = .nils → dCode Tryd.prog hookG (.loop c53.l0) e H = some (.ret, e', K) ∧ e' 4 = .slc (H1.length + 1) 0 1 1 6 false) fun e => by
      by_cases hq : e 0 = .ptr x 0 ∧ e 1 = .int .i64 d ∧ e 5 = .nils
      · obtain ⟨e', q⟩ := key e hq.1 hq.2.1 hq.2.2
        exact ⟨e', fun _ _ _ => q⟩
      · exact ⟨e, fun a b c => absurd ⟨a, b, c⟩ hq⟩
    have f1 := fun e a b c => (hF e a b c).1
    have f2 := fun e a b c => (hF e a b c).2
    simp at hem
    rw [den_of (hG (by decide) (by decide) (by decide) _ _) k53 (by simp [c53])]
    simp [c53, c53.body, hem, f1, f2]
  rcases hend with ⟨he, rfl⟩ | ⟨rfl, rfl, hj, hbj, hk⟩
  · exact ⟨_, H3, main H3 (more_bad (c := 93) P3 he), hg3, by omega, P3, F3⟩
  · refine ⟨_, _, main _ (more_end (c := 93) P3 hj hbj (by decide) (by decide) hk hT), ?_, by omega, P3.move k 0 0, F3.trans (Fr.set (S := fun b => b = x) rfl) fun _ _ h => h⟩
    rw [List.getElem?_set_ne (by omega)]
    exact hg3

/-- the empty list -/
theorem list_none {H : Heap} {x r : Nat} {T : ByteArray} {d i j : Nat} (h : PR H x r T i 0 0) (hi : i < T.size) (hb : byteAt T i = 93) (hj : j = i + 1) (hT : T.size < 2 ^ 38) :
    den Tryd.prog hookG 53 [.ptr x 0, .int .i64 d] H = some (.nils, H.set x (rdB r T j 0 0)) := by
  have hem := empty_end (c := 93) h hi hb (by decide) hj hT
  simp at hem
  rw [den_of (hG (by decide) (by decide) (by decide) _ _) k53 (by simp [c53])]
  simp [c53, c53.body, hem]

/-- a list as a value -/
theorem value_list {H K2 : Heap} {x r : Nat} {T : ByteArray} {d i i1 j : Nat} {ek ea : Int} {cvl : CV} (h : PR H x r T i 0 0) (hb : byteAt T i = 91) (hi1 : i1 = i + 1) (hT : T.size < 2 ^ 38) (hi : i < T.size) (hd : d < 64)
    (hl : den Tryd.prog hookG 53 [.ptr x 0, .int .i64 ((d + 1 : Nat) : Int)] (H.set x (rdB r T i1 0 0) ++ [zB, jB i]) = some (cvl, K2)) (hok : okL cvl) (hP : PR K2 x r T j ek ea) (hF : Fr (fun b => b = x) (H.set x (rdB r T i1 0 0) ++ [zB, jB i]) K2) :
    ∃ H', den Tryd.prog hookG 28 [.ptr x 0, .int .i64 d] H = some (.agg [.int .i64 6, .int .i64 0, .str (bs []), cvl, .nils, .int .i64 i], H') ∧ VE H x r T j ek ea [.int .i64 6, .int .i64 0, .str (bs []), cvl, .nils, .int .i64 i] H' ∧ (∀ b, b ≠ H.length → b ≠ H.length + 1 → H'[b]? = K2[b]?) := by
  have hlt := h.lt
  have p0 : PR (H ++ [zB]) x r T i 0 0 := h.app
  have p1 : PR (H ++ [zB, jB i]) x r T i 0 0 := h.app
  have hbl := blanks_stop p0 (plain_stop hb (by decide))
  have hbad := bad_run p1
  have hnext := next_run p1
  simp only [decide_true, Bool.not_true] at hbad
  rw [hb] at hnext
  have q0 := p0.at_
  have q1 := p1.at_
  have hls : (H.set x (rdB r T i1 0 0)).length = H.length := by simp
  have kz : K2[H.length]? = some zB := by
    rw [hF.2 _ (by simp) (by omega), ← hls, at_new0]; rfl
  have kj : K2[H.length + 1]? = some (jB i) := by
    rw [hF.2 _ (by simp) (by omega), ← hls, at_new]; rfl
  have es : (H ++ [zB, jB i]).set x (rdB r T i1 0 0) = H.set x (rdB r T i1 0 0) ++ [zB, jB i] := List.set_append_left _ _ hlt
  have hw : IntKind.i64.wrap ((i : Int) + 1) = (i1 : Int) := by rw [IntKind.wrap_i64]; omega
  have hwd : IntKind.i64.wrap ((d : Int) + 1) = ((d + 1 : Nat) : Int) := by rw [IntKind.wrap_i64]; omega
  have hlz := lt_of_get kz
  have hlj := lt_of_get kj
  let cs : List CV := [.int .i64 6, .int .i64 0, .str (bs []), cvl, .nils, .int .i64 i]
  let C : Blk := { cells := cs, st := .live, ty := some 28 }
  let H' : Heap := (K2.set (H.length + 1) C).set H.length C
  have old : ∀ b, b ≠ H.length → b ≠ H.length + 1 → H'[b]? = K2[b]? := fun b h0 h1 => by
    simp only [H']
    rw [List.getElem?_set_ne (Ne.symm h0), List.getElem?_set_ne (Ne.symm h1)]
  have l2 := hF.1
  simp at l2
  have hP' : PR H' x r T j ek ea := by
    obtain ⟨a1, a2, blk, a3, a4⟩ := hP
    have hr : r < H.length := by obtain ⟨blk, hb, _⟩ := h.by_; exact lt_of_get hb
    exact ⟨by rw [old x (by omega) (by omega)]; exact a1, a2, blk, by rw [old r (by omega) (by omega)]; exact a3, a4⟩
  refine ⟨H', ?_, ⟨hP', ⟨by simp [H']; omega, fun b hb hn => ?_⟩, rfl⟩, old⟩
  · rw [den_of (hG (by decide) (by decide) (by decide) _ _) k28 (by simp [c28])]
    have hdI : ¬ (64 : Int) ≤ d := by omega
    have d91 : den Tryd.prog hookG 51 [.int .u8 91] (H ++ [zB, jB i]) = some (.bool false, H ++ [zB, jB i]) := by
      obtain ⟨h', hd⟩ := den_closed (f := 51) (a := [.int .u8 91]) (v := .bool false) (n := 1000) (by decide +kernel)
      exact denGp rfl (by decide) rfl rfl hd
    have t0 : ∀ b, (K2.set (H.length + 1) b)[H.length]? = some zB := fun b => by rw [List.getElem?_set_ne (by omega)]; exact kz
    have t1 : ∀ b, (K2.set (H.length + 1) b)[H.length + 1]? = some b := fun b => List.getElem?_set_self hlj
    have t2 : ∀ b c, ((K2.set (H.length + 1) b).set (H.length + 1) c) = K2.set (H.length + 1) c := fun b c => List.set_set ..
    have t3 : ∀ b c, ((K2.set (H.length + 1) b).set H.length c)[H.length]? = some c := fun b c => List.getElem?_set_self (by simp; omega)
    simp only [rdB] at q0 q1 es hl
    simp only [zB, jB] at hbl hbad hnext hl q0 q1 es kz kj t0 d91
    simp at hnext
    push_cast at hl hwd
    rcases hok with rfl | ⟨g, n, m, k, ex, rfl⟩ <;> simp [c28, c28.body, hbl, q0, q1, hbad, hnext, hdI, d91, hw, es, hwd, hl, kj, t0, t1, t3, cs, C, H']
  · rw [old b (by omega) (by omega), hF.2 b (by simp; omega) hn, List.getElem?_append_left (by simpa using hb), List.getElem?_set_ne (Ne.symm hn)]

end Go.Cn.D

/- The program's reader of JSON: too deep; maps; texts as values. -/
namespace Go.Cn.D
open Go.Proofs
set_option maxRecDepth 100000

/-- too deep -/
theorem value_deep {H : Heap} {x r : Nat} {T : ByteArray} {d i : Nat} {c : UInt8} (h : PR H x r T i 0 0) (hb : byteAt T i = c) (hc : c = 91 ∨ c = 123) (hd : 64 ≤ d) :
    ∃ cs H', den Tryd.prog hookG 28 [.ptr x 0, .int .i64 d] H = some (.agg cs, H') ∧ VE H x r T i 2 i cs H' := by
  have hlt := h.lt
  have p0 : PR (H ++ [zB]) x r T i 0 0 := h.app
  have p1 : PR (H ++ [zB, jB i]) x r T i 0 0 := h.app
  have hbl := blanks_stop p0 (plain_stop hb (by rcases hc with rfl | rfl <;> decide))
  have hbad := bad_run p1
  have hnext := next_run p1
  have hf := fail_run p1 2 i
  simp only [decide_true, Bool.not_true] at hbad
  rw [hb] at hnext
  have q0 := p0.at_
  have q1 := p1.at_
  have es : (H ++ [zB, jB i]).set x (rdB r T i 2 i) = H.set x (rdB r T i 2 i) ++ [zB, jB i] := List.set_append_left _ _ hlt
  rw [es] at hf
  have hl : (H.set x (rdB r T i 2 i)).length = H.length := by simp
  have g0 : ∀ l, (H.set x (rdB r T i 2 i) ++ l)[H.length]? = l[0]? := fun l => by rw [← hl]; exact at_new0
  have g1 : ∀ l, (H.set x (rdB r T i 2 i) ++ l)[H.length + 1]? = l[1]? := fun l => by rw [← hl]; exact at_new
  have t0 : ∀ l b, (H.set x (rdB r T i 2 i) ++ l).set H.length b = H.set x (rdB r T i 2 i) ++ l.set 0 b := fun l b => by rw [← hl]; exact set_new0
  let cs : List CV := [.int .i64 0, .int .i64 0, .str (bs []), .nils, .nils, .int .i64 i]
  let L : Heap := [{ cells := cs, st := .live, ty := some 28 }, { cells := cs, st := .live, ty := some 28 }]
  have hdI : (64 : Int) ≤ d := by omega
  refine ⟨cs, H.set x (rdB r T i 2 i) ++ L, ?_, ⟨(h.move i 2 i).app, (Fr.set (S := fun b => b = x) rfl).trans (Fr.push _) fun _ _ h => h, rfl⟩⟩
  rw [den_of (hG (by decide) (by decide) (by decide) _ _) k28 (by simp [c28])]
  simp only [rdB] at q0 q1 hf g0 g1 t0 ⊢
  simp only [zB, jB] at hbl hbad hnext hf q0 q1
  rcases hc with rfl | rfl <;> (simp at hnext; simp [c28, c28.body, hbl, q0, q1, hbad, hnext, hdI, hf, g0, g1, t0, cs, L])

/-- a map of one value -/
theorem entries_one {H H1 H2 : Heap} {x r : Nat} {T : ByteArray} {d i j1 j2 j k : Nat} {ek ea : Int} {cs : List CV} {s : ByteArray} (h : PR H x r T i 0 0) (hx : x < H.length) (hr : r < H.length) (hb : byteAt T i = 34)
    (hn : den Tryd.prog hookG 76 [.ptr x 0, .nils] H = some (.str s, H1)) (hP1 : PR H1 x r T j1 0 0) (hF1 : Fr (fun b => b = x) H H1) (hb1 : byteAt T j1 = 58) (hj2 : j2 = j1 + 1) (hj1 : j1 < T.size)
    (hv : den Tryd.prog hookG 28 [.ptr x 0, .int .i64 d] ((H1 ++ [({ cells := [.str s], st := .live } : Blk), { cells := [.str s], st := .live, el := some 9 }]).set x (rdB r T j2 0 0)) = some (.agg cs, H2))
    (V : VE ((H1 ++ [({ cells := [.str s], st := .live } : Blk), { cells := [.str s], st := .live, el := some 9 }]).set x (rdB r T j2 0 0)) x r T j ek ea cs H2) (hend : ek ≠ 0 ∧ k = j ∨ ek = 0 ∧ ea = 0 ∧ j < T.size ∧ byteAt T j = 125 ∧ k = j + 1) (hT : T.size < 2 ^ 38) :
    ∃ g H', den Tryd.prog hookG 54 [.ptr x 0, .int .i64 d] H = some (.tup [.slc (H1.length + 1) 0 1 1 1 false, .slc g 0 1 1 6 false], H') ∧ PR H' x r T k ek ea ∧ Fr (fun b => b = x) H H' := by
  have hem := empty_no (c := 125) h hb (by decide) (by decide)
  have hl1 := hF1.1
  let N : Heap := H1 ++ [({ cells := [.str s], st := .live } : Blk), { cells := [.str s], st := .live, el := some 9 }]
  have pN : PR N x r T j1 0 0 := hP1.app
  have hblN := blanks_stop pN (plain_stop hb1 (by decide))
  have hbadN := bad_run pN
  have hnextN := next_run pN
  simp only [decide_true, Bool.not_true] at hbadN
  rw [hb1] at hnextN
  have pM := pN.move j2 0 0
  have hbadM := bad_run pM
  simp only [decide_true, Bool.not_true] at hbadM
  have qN := pN.at_
  have hw : IntKind.i64.wrap ((j1 : Int) + 1) = (j2 : Int) := by rw [IntKind.wrap_i64]; omega
  have l2 := V.fr.1
  simp at l2
  have hcl := V.len
  have hct : cs.take 6 = cs := List.take_of_length_le (Nat.le_of_eq hcl)
  have hk9 : append (H1 ++ [({ cells := [.str s], st := .live } : Blk)]) 9 1 16 false .nils (.slc H1.length 0 1 1 1 true) = some (.slc (H1.length + 1) 0 1 1 1 false, N) := by
    have c16 : 16 ≤ capB := by unfold capB; omega
    have c1 : 1 ≤ capB := by unfold capB; omega
    have hld : (H1 ++ [({ cells := [.str s], st := .live } : Blk)]).ld H1.length 0 1 = some [.str s] := by
      rw [ld_of (blk := { cells := [.str s], st := .live }) (by simp) (.inl rfl) (by simp)]; rfl
    simp only [append, srcCells, Nat.one_mul, hld]
    simp [c16, c1, N]
  let H3 : Heap := H2 ++ [{ cells := cs, st := .live }]
  let H4 : Heap := H3 ++ [{ cells := cs, st := .live, el := some 28 }]
  have P4 : PR H4 x r T j ek ea := V.pr.app.app
  have hld : H3.ld H2.length 0 6 = some cs := by
    rw [ld_of (blk := { cells := cs, st := .live }) (by simp [H3]) (.inl rfl) (by simp [hcl])]
    simp only [List.drop_zero]
    rw [hct]
  have happ : append H3 28 6 88 false .nils (.slc H2.length 0 1 1 6 true) = some (.slc (H2.length + 1) 0 1 1 6 false, H4) := by
    have c88 : 88 ≤ capB := by unfold capB; omega
    have c1 : 1 ≤ capB := by unfold capB; omega
    have hl2 : H3.length = H2.length + 1 := by simp [H3]
    simp only [append, srcCells, Nat.one_mul, hld]
    simp [c88, c1, H4, hl2]
  have F4 : Fr (fun b => b = x) H H4 := by
    have f1 : Fr (fun b => b = x) H N := hF1.trans (Fr.push _) fun _ _ h => h
    have f2 : Fr (fun b => b = x) H (N.set x (rdB r T j2 0 0)) := f1.trans (Fr.set (S := fun b => b = x) rfl) fun _ _ h => h
    have f3 := f2.trans V.fr fun _ _ h => h
    exact (f3.trans (Fr.push (S := fun b => b = x) [{ cells := cs, st := .live }]) fun _ _ h => h).trans (Fr.push _) fun _ _ h => h
  have main : ∀ K, den Tryd.prog hookG 75 [.ptr x 0, .int .u8 125] H4 = some (.bool false, K) → den Tryd.prog hookG 54 [.ptr x 0, .int .i64 d] H = some (.tup [.slc (H1.length + 1) 0 1 1 1 false, .slc (H2.length + 1) 0 1 1 6 false], K) := by
    intro K hm
    have key : ∀ e : Env, e 0 = .ptr x 0 → e 1 = .int .i64 d → e 6 = .nils → e 7 = .nils → ∃ e', dCode Tryd.prog hookG (.loop c54.l0) e H = some (.ret, e', K) ∧ e' 4 = .slc (H1.length + 1) 0 1 1 1 false ∧ e' 5 = .slc (H2.length + 1) 0 1 1 6 false := by
      intro e e0 e1 e6 e7
      have k1 : ∃ e', dCode Tryd.prog hookG c54.l0 e H = some (.ret, e', K) ∧ e' 4 = .slc (H1.length + 1) 0 1 1 1 false ∧ e' 5 = .slc (H2.length + 1) 0 1 1 6 false := by
        simp only [H4, H3] at happ hm
        simp only [N, rdB] at hk9 hblN hbadN hnextN hbadM qN hv
        simp at hm hnextN
        simp [c54.l0, e0, e1, e6, e7, hn, hk9, hblN, hbadN, hnextN, qN, hw, rdB, hbadM, hv, hcl, hct, happ, hm]
      obtain ⟨e', a, b⟩ := k1
      exact ⟨e', by rw [loop_step, a, next_ret], b⟩
    obtain ⟨F, hF⟩ := choose_fn (p := fun (e : Env) (e' : Env) => e 0 = .ptr x 0 → e 1 = .int .i64 d → e 6 = .nils → e 7 = .nils → dCode Tryd.prog hookG (.loop c54.l0) e H = some (.ret, e', K) ∧ e' 4 = .slc (H1.length + 1) 0 1 1 1 false ∧ e' 5 = .slc (H2.length + 1) 0 1 1 6 false) fun e => by
      by_cases hq : e 0 = .ptr x 0 ∧ e 1 = .int .i64 d ∧ e 6 = .nils ∧ e 7 = .nils
      · obtain ⟨e', q⟩ := key e hq.1 hq.2.1 hq.2.2.1 hq.2.2.2
        exact ⟨e', fun _ _ _ _ => q⟩
      · exact ⟨e, fun a b c d => absurd ⟨a, b, c, d⟩ hq⟩
    have f1 := fun e a b c d => (hF e a b c d).1
    have f2 := fun e a b c d => (hF e a b c d).2.1
    have f3 := fun e a b c d => (hF e a b c d).2.2
    simp at hem
    rw [den_of (hG (by decide) (by decide) (by decide) _ _) k54 (by simp [c54])]
    simp [c54, c54.body, hem, f1, f2, f3]
  rcases hend with ⟨he, rfl⟩ | ⟨rfl, rfl, hj, hbj, hk⟩
  · exact ⟨_, H4, main H4 (more_bad (c := 125) P4 he), P4, F4⟩
  · exact ⟨_, _, main _ (more_end (c := 125) P4 hj hbj (by decide) (by decide) hk hT), P4.move k 0 0, F4.trans (Fr.set (S := fun b => b = x) rfl) fun _ _ h => h⟩

end Go.Cn.D

/- The program's reader of JSON: maps and texts as values; the whole text. -/
namespace Go.Cn.D
open Go.Proofs
set_option maxRecDepth 100000

/-- a map as a value -/
theorem value_map {H K2 : Heap} {x r : Nat} {T : ByteArray} {d i i1 j g kcvb : Nat} {ek ea : Int} {kcv : CV} (h : PR H x r T i 0 0) (hb : byteAt T i = 123) (hi1 : i1 = i + 1) (hT : T.size < 2 ^ 38) (hi : i < T.size) (hd : d < 64)
    (hl : den Tryd.prog hookG 54 [.ptr x 0, .int .i64 ((d + 1 : Nat) : Int)] (H.set x (rdB r T i1 0 0) ++ [zB, { jB i with cells := [.int .i64 7, .int .i64 0, .str (bs []), .nils, .nils, .int .i64 i] }]) = some (.tup [.slc kcvb 0 1 1 1 false, .slc g 0 1 1 6 false], K2)) (hk : kcv = .slc kcvb 0 1 1 1 false) (hP : PR K2 x r T j ek ea) (hF : Fr (fun b => b = x) (H.set x (rdB r T i1 0 0) ++ [zB, { jB i with cells := [.int .i64 7, .int .i64 0, .str (bs []), .nils, .nils, .int .i64 i] }]) K2) :
    ∃ cs H', den Tryd.prog hookG 28 [.ptr x 0, .int .i64 d] H = some (.agg cs, H') ∧ VE H x r T j ek ea cs H' := by
  have hlt := h.lt
  have p0 : PR (H ++ [zB]) x r T i 0 0 := h.app
  have p1 : PR (H ++ [zB, jB i]) x r T i 0 0 := h.app
  have hbl := blanks_stop p0 (plain_stop hb (by decide))
  have hbad := bad_run p1
  have hnext := next_run p1
  simp only [decide_true, Bool.not_true] at hbad
  rw [hb] at hnext
  have q0 := p0.at_
  have q1 := p1.at_
  have hls : (H.set x (rdB r T i1 0 0)).length = H.length := by simp
  have kz : K2[H.length]? = some zB := by
    rw [hF.2 _ (by simp) (by omega), ← hls, at_new0]; rfl
  have kj : K2[H.length + 1]? = some { jB i with cells := [.int .i64 7, .int .i64 0, .str (bs []), .nils, .nils, .int .i64 i] } := by
    rw [hF.2 _ (by simp) (by omega), ← hls, at_new]; rfl
  have es : (H ++ [zB, jB i]).set x (rdB r T i1 0 0) = H.set x (rdB r T i1 0 0) ++ [zB, jB i] := List.set_append_left _ _ hlt
  have hw : IntKind.i64.wrap ((i : Int) + 1) = (i1 : Int) := by rw [IntKind.wrap_i64]; omega
  have hwd : IntKind.i64.wrap ((d : Int) + 1) = ((d + 1 : Nat) : Int) := by rw [IntKind.wrap_i64]; omega
  have hlz := lt_of_get kz
  have hlj := lt_of_get kj
  let cs : List CV := [.int .i64 7, .int .i64 0, .str (bs []), .slc g 0 1 1 6 false, kcv, .int .i64 i]
  let C : Blk := { cells := cs, st := .live, ty := some 28 }
  let H' : Heap := (K2.set (H.length + 1) C).set H.length C
  have old : ∀ b, b ≠ H.length → b ≠ H.length + 1 → H'[b]? = K2[b]? := fun b h0 h1 => by
    simp only [H']
    rw [List.getElem?_set_ne (Ne.symm h0), List.getElem?_set_ne (Ne.symm h1)]
  have l2 := hF.1
  simp at l2
  have hP' : PR H' x r T j ek ea := by
    obtain ⟨a1, a2, blk, a3, a4⟩ := hP
    have hr : r < H.length := by obtain ⟨blk, hb, _⟩ := h.by_; exact lt_of_get hb
    exact ⟨by rw [old x (by omega) (by omega)]; exact a1, a2, blk, by rw [old r (by omega) (by omega)]; exact a3, a4⟩
  refine ⟨cs, H', ?_, ⟨hP', ⟨by simp [H']; omega, fun b hb hn => ?_⟩, rfl⟩⟩
  · subst hk
    rw [den_of (hG (by decide) (by decide) (by decide) _ _) k28 (by simp [c28])]
    have hdI : ¬ (64 : Int) ≤ d := by omega
    have d123 : den Tryd.prog hookG 51 [.int .u8 123] (H ++ [zB, jB i]) = some (.bool false, H ++ [zB, jB i]) := by
      obtain ⟨h', hd⟩ := den_closed (f := 51) (a := [.int .u8 123]) (v := .bool false) (n := 1000) (by decide +kernel)
      exact denGp rfl (by decide) rfl rfl hd
    have g1 : ∀ l, (H.set x (rdB r T i1 0 0) ++ l)[H.length + 1]? = l[1]? := fun l => by rw [← hls]; exact at_new
    have s1 : ∀ l b, (H.set x (rdB r T i1 0 0) ++ l).set (H.length + 1) b = H.set x (rdB r T i1 0 0) ++ l.set 1 b := fun l b => by rw [← hls]; exact set_new
    have t0 : ∀ b, (K2.set (H.length + 1) b)[H.length]? = some zB := fun b => by rw [List.getElem?_set_ne (by omega)]; exact kz
    have t1 : ∀ b, (K2.set (H.length + 1) b)[H.length + 1]? = some b := fun b => List.getElem?_set_self hlj
    have t3 : ∀ b c, ((K2.set (H.length + 1) b).set H.length c)[H.length]? = some c := fun b c => List.getElem?_set_self (by simp; omega)
    simp only [rdB] at q0 q1 es hl g1 s1
    simp only [zB, jB] at hbl hbad hnext hl q0 q1 es kz kj t0 d123
    simp at hnext
    push_cast at hl hwd
    simp [c28, c28.body, hbl, q0, q1, hbad, hnext, hdI, d123, hw, es, g1, s1, hwd, hl, kj, t0, t1, t3, cs, C, H']
  · rw [old b (by omega) (by omega), hF.2 b (by simp; omega) hn, List.getElem?_append_left (by simpa using hb), List.getElem?_set_ne (Ne.symm hn)]

/-- a text as a value -/
theorem value_text {H : Heap} {x r : Nat} {T : ByteArray} {d i j : Nat} {s : List UInt8} (h : PR H x r T i 0 0) (hb : byteAt T i = 34) (hp : ∀ c ∈ s, plainB c = true) (hT : T.size < 2 ^ 38) (hi : i + 1 + s.length < T.size) (hs : ∀ q, q < s.length → byteAt T (i + 1 + q) = (s[q]?).getD 0) (hq : byteAt T (i + 1 + s.length) = 34) (hj : j = i + s.length + 2) :
    ∃ H', den Tryd.prog hookG 28 [.ptr x 0, .int .i64 d] H = some (.agg [.int .i64 5, .int .i64 0, .str ⟨s.toArray⟩, .nils, .nils, .int .i64 i], H') ∧ VE H x r T j (longE s.length) (longA s.length i) [.int .i64 5, .int .i64 0, .str ⟨s.toArray⟩, .nils, .nils, .int .i64 i] H' := by
  have hlt := h.lt
  have p0 : PR (H ++ [zB]) x r T i 0 0 := h.app
  have p1 : PR (H ++ [zB, jB i]) x r T i 0 0 := h.app
  have hbl := blanks_stop p0 (plain_stop hb (by decide))
  have hbad := bad_run p1
  have hnext := next_run p1
  simp only [decide_true, Bool.not_true] at hbad
  rw [hb] at hnext
  have q0 := p0.at_
  have q1 := p1.at_
  obtain ⟨K2, hl, hP, hF⟩ := text_run p1 hp hT hi hs hq hj
  have kz : K2[H.length]? = some zB := by rw [hF.2 _ (by simp) (by omega), at_new0]; rfl
  have kj : K2[H.length + 1]? = some (jB i) := by rw [hF.2 _ (by simp) (by omega), at_new]; rfl
  have hlz := lt_of_get kz
  have hlj := lt_of_get kj
  let cs : List CV := [.int .i64 5, .int .i64 0, .str ⟨s.toArray⟩, .nils, .nils, .int .i64 i]
  let C : Blk := { cells := cs, st := .live, ty := some 28 }
  let H' : Heap := (K2.set (H.length + 1) C).set H.length C
  have old : ∀ b, b ≠ H.length → b ≠ H.length + 1 → H'[b]? = K2[b]? := fun b h0 h1 => by
    simp only [H']
    rw [List.getElem?_set_ne (Ne.symm h0), List.getElem?_set_ne (Ne.symm h1)]
  have l2 := hF.1
  simp at l2
  have hP' : PR H' x r T j (longE s.length) (longA s.length i) := by
    obtain ⟨a1, a2, blk, a3, a4⟩ := hP
    have hr : r < H.length := by obtain ⟨blk, hb, _⟩ := h.by_; exact lt_of_get hb
    exact ⟨by rw [old x (by omega) (by omega)]; exact a1, a2, blk, by rw [old r (by omega) (by omega)]; exact a3, a4⟩
  refine ⟨H', ?_, ⟨hP', ⟨by simp [H']; omega, fun b hb hn => ?_⟩, rfl⟩⟩
  · rw [den_of (hG (by decide) (by decide) (by decide) _ _) k28 (by simp [c28])]
    have t0 : ∀ b, (K2.set (H.length + 1) b)[H.length]? = some zB := fun b => by rw [List.getElem?_set_ne (by omega)]; exact kz
    have t1 : ∀ b, (K2.set (H.length + 1) b)[H.length + 1]? = some b := fun b => List.getElem?_set_self hlj
    have t3 : ∀ b c, ((K2.set (H.length + 1) b).set H.length c)[H.length]? = some c := fun b c => List.getElem?_set_self (by simp; omega)
    simp only [rdB] at q0 q1
    simp only [zB, jB] at hbl hbad hnext hl q0 q1 kz kj t0
    simp at hnext
    simp [c28, c28.body, hbl, q0, hbad, hnext, hl, kj, t0, t1, t3, C, cs, H']
  · rw [old b (by omega) (by omega), hF.2 b (by simp; omega) hn, List.getElem?_append_left hb]

end Go.Cn.D

/- The program's reader of JSON: lists in lists, maps in maps. -/
namespace Go.Cn.D
open Go.Proofs
set_option maxRecDepth 100000

/-- m lists in each other -/
theorem lists_deep {T : ByteArray} {m x r : Nat} (hm : m < 2 ^ 30) (hs : T.size = 2 * m) (ho : ∀ q, q < m → byteAt T q = 91) (hc : ∀ q, m ≤ q → q < 2 * m → byteAt T q = 93) :
    ∀ (n d : Nat) (H : Heap), d + n = m → 0 < n → d ≤ 64 → PR H x r T d 0 0 →
      ∃ cs H', den Tryd.prog hookG 28 [.ptr x 0, .int .i64 d] H = some (.agg cs, H') ∧ VE H x r T (if 64 < m then 64 else 2 * m - d) (if 64 < m then 2 else 0) (if 64 < m then 64 else 0) cs H' := by
  intro n
  induction n with
  | zero => intro d H _ h; omega
  | succ n ih =>
    intro d H hd _ h64 h
    have hr : r < H.length := by obtain ⟨blk, hb, _⟩ := h.by_; exact lt_of_get hb
    have hx := h.lt
    have hb := ho d (by omega)
    by_cases h64' : d = 64
    · obtain ⟨cs, H', dv, V⟩ := value_deep h hb (.inl rfl) (Nat.le_of_eq h64'.symm)
      have hm64 : 64 < m := by omega
      refine ⟨cs, H', dv, ?_⟩
      simp only [hm64, if_true]
      subst h64'
      exact V
    · have hT : T.size < 2 ^ 38 := by omega
      have hp : PR (H.set x (rdB r T (d + 1 : Nat) 0 0) ++ [zB, jB d]) x r T (d + 1 : Nat) 0 0 := (h.move (d + 1 : Nat) 0 0).app
      cases n with
      | zero =>
        have hm64 : ¬ 64 < m := by omega
        have l := list_none (d := d + 1) (j := d + 2) hp (by omega) (hc (d + 1) (by omega) (by omega)) rfl hT
        obtain ⟨H', dv, V, _⟩ := value_list (d := d) (j := d + 2) (ek := 0) (ea := 0) h hb rfl hT (by omega) (by omega) l (.inl rfl) (hp.move _ 0 0) (Fr.set (S := fun b => b = x) rfl)
        refine ⟨_, H', dv, ?_⟩
        have : 2 * m - d = d + 2 := by omega
        simp only [hm64, if_false, this]
        exact V
      | succ n =>
        obtain ⟨cs, H1, dv, V⟩ := ih (d + 1) _ (by omega) (by omega) (by omega) hp
        obtain ⟨g, H2, dl, _, _, P2, F2⟩ := list_one (d := d + 1) (k := if 64 < m then 64 else 2 * m - d) hp (by simp; omega) (by simp; omega) (ho (d + 1) (by omega)) (by decide) (by decide) dv V (by
          by_cases hm64 : 64 < m
          · simp [hm64]
          · simp only [hm64, if_false]
            exact .inr ⟨trivial, trivial, by omega, hc _ (by omega) (by omega), by omega⟩) hT
        obtain ⟨H', dv, V, _⟩ := value_list (d := d) h hb rfl hT (by omega) (by omega) dl (.inr ⟨_, _, _, _, _, rfl⟩) P2 F2
        exact ⟨_, H', dv, V⟩

/-- m maps in each other -/
theorem maps_deep {T : ByteArray} {m x r : Nat} (hm : m < 2 ^ 30) (hs : T.size = 6 * m + 1) (h0 : ∀ q, q < m → byteAt T (5 * q) = 123 ∧ byteAt T (5 * q + 1) = 34 ∧ byteAt T (5 * q + 2) = 97 ∧ byteAt T (5 * q + 3) = 34 ∧ byteAt T (5 * q + 4) = 58) (h1 : byteAt T (5 * m) = 49) (hc : ∀ q, q < m → byteAt T (5 * m + 1 + q) = 125) :
    ∀ (n d i : Nat) (H : Heap), d + n = m → d ≤ 64 → i = 5 * d → PR H x r T i 0 0 →
      ∃ cs H', den Tryd.prog hookG 28 [.ptr x 0, .int .i64 d] H = some (.agg cs, H') ∧ VE H x r T (if 64 < m then 320 else 5 * m + 1 + n) (if 64 < m then 2 else 0) (if 64 < m then 320 else 0) cs H' := by
  have hT : T.size < 2 ^ 38 := by omega
  intro n
  induction n with
  | zero =>
    intro d i H hd h64 hi h
    have hdm : d = m := by omega
    have hm64 : ¬ 64 < m := by omega
    subst hdm hi
    obtain ⟨cs, H', dv, V⟩ := value_one (d := d) (j := 5 * d + 1) h (by omega) h1 rfl rfl (by
      cases d with
      | zero =>
        left
        have : T.data.toList[5 * 0 + 1]? = none := List.getElem?_eq_none (by have : T.data.toList.length = T.size := rfl; omega)
        simp [byteAt, this]
      | succ d => exact .inr (.inl (hc 0 (by omega)))) hT
    refine ⟨cs, H', dv, ?_⟩
    simp only [hm64, if_false]
    exact V
  | succ n ih =>
    intro d i H hd h64 hi h
    subst hi
    have hr : r < H.length := by obtain ⟨blk, hb, _⟩ := h.by_; exact lt_of_get hb
    have hx := h.lt
    obtain ⟨b0, b1, b2, b3, b4⟩ := h0 d (by omega)
    by_cases h64' : d = 64
    · obtain ⟨cs, H', dv, V⟩ := value_deep h b0 (.inr rfl) (Nat.le_of_eq h64'.symm)
      have hm64 : 64 < m := by omega
      refine ⟨cs, H', dv, ?_⟩
      simp only [hm64, if_true]
      subst h64'
      exact V
    · have hp : PR (H.set x (rdB r T (5 * d + 1 : Nat) 0 0) ++ [zB, { jB (5 * d) with cells := [.int .i64 7, .int .i64 0, .str (bs []), .nils, .nils, .int .i64 (5 * d : Nat)] }]) x r T (5 * d + 1 : Nat) 0 0 := (h.move (5 * d + 1 : Nat) 0 0).app
      obtain ⟨H1, dn, P1, F1⟩ := name_run (S := fun b => b = x) (kcv := .nils) (ks := []) (s := [97]) (j := 5 * d + 4) hp (.nil) rfl rfl (by decide) (by decide) hT b1 (by simp; omega) (by
        intro q hq
        have : q = 0 := by simp at hq; omega
        subst this
        exact b2) b3 rfl (by decide)
      have hp1 : PR ((H1 ++ [({ cells := [.str ⟨[97].toArray⟩], st := .live } : Blk), { cells := [.str ⟨[97].toArray⟩], st := .live, el := some 9 }]).set x (rdB r T (5 * d + 5 : Nat) 0 0)) x r T (5 * d + 5 : Nat) 0 0 := (P1.app).move (5 * d + 5 : Nat) 0 0
      obtain ⟨cs, H2, dv, V⟩ := ih (d + 1) (5 * d + 5) _ (by omega) (by omega) (by omega) hp1
      obtain ⟨g, H3, de, P3, F3⟩ := entries_one (d := d + 1) (k := if 64 < m then 320 else 5 * m + 1 + (n + 1)) hp (by simp; omega) (by simp; omega) b1 dn P1 F1 b4 rfl (by omega) dv V (by
        by_cases hm64 : 64 < m
        · simp [hm64]
        · simp only [hm64, if_false]
          exact .inr ⟨trivial, trivial, by omega, hc _ (by omega), by omega⟩) hT
      exact value_map h b0 rfl hT (by omega) (by omega) de rfl P3 F3


/-- a list of one text -/
theorem list_of_text {T : ByteArray} {x r : Nat} {s : List UInt8} {H : Heap} (h : PR H x r T (0 : Nat) 0 0) (hsz : T.size = s.length + 4) (hT : T.size < 2 ^ 38) (b0 : byteAt T 0 = 91) (b1 : byteAt T 1 = 34) (hp : ∀ c ∈ s, plainB c = true) (hs : ∀ q, q < s.length → byteAt T (2 + q) = (s[q]?).getD 0) (b2 : byteAt T (s.length + 2) = 34) (b3 : byteAt T (s.length + 3) = 93) :
    ∃ g H' C, den Tryd.prog hookG 28 [.ptr x 0, .int .i64 0] H = some (.agg [.int .i64 6, .int .i64 0, .str (bs []), .slc g 0 1 1 6 false, .nils, .int .i64 0], H') ∧ VE H x r T (if 255 < s.length then s.length + 3 else T.size) (longE s.length) (if 255 < s.length then 1 else 0) [.int .i64 6, .int .i64 0, .str (bs []), .slc g 0 1 1 6 false, .nils, .int .i64 0] H' ∧ H'[g]? = some { cells := [.int .i64 5, .int .i64 0, .str ⟨s.toArray⟩, .nils, .nils, .int .i64 1], st := .live, el := C } ∧ H.length ≤ g := by
  have hr : r < H.length := by obtain ⟨blk, hb, _⟩ := h.by_; exact lt_of_get hb
  have hx := h.lt
  have hp1 : PR (H.set x (rdB r T (1 : Nat) 0 0) ++ [zB, jB 0]) x r T (1 : Nat) 0 0 := (h.move (1 : Nat) 0 0).app
  obtain ⟨H1, dv, V⟩ := value_text (d := 1) (j := s.length + 3) hp1 b1 hp hT (by omega) (fun q hq => by rw [← hs q hq]) (by rw [← b2]; congr 1; omega) (by omega)
  obtain ⟨g, H2, dl, hg, hgl, P2, F2⟩ := list_one (d := 1) (k := if 255 < s.length then s.length + 3 else T.size) hp1 (by simp; omega) (by simp; omega) b1 (by decide) (by decide) dv V (by
    by_cases hl : 255 < s.length
    · simp [longE, hl]
    · simp only [longE, longA, hl, if_false]
      exact .inr ⟨trivial, trivial, by omega, b3, by omega⟩) hT
  obtain ⟨H', dv, V, hold⟩ := value_list (d := 0) h b0 rfl hT (by omega) (by omega) dl (.inr ⟨_, _, _, _, _, rfl⟩) P2 F2
  have hgl' : g < H2.length := lt_of_get hg
  simp at hgl
  have l3 := V.fr.1
  refine ⟨g, H', some 28, dv, ?_, ?_, by omega⟩
  · simpa [longA] using V
  · rw [hold g (by omega) (by omega)]
    exact hg

end Go.Cn.D

/- The program's reader of JSON: the whole text. -/
namespace Go.Cn.D
open Go.Proofs
set_option maxRecDepth 100000

def eB : Blk := { cells := [.int .i64 0, .int .i64 0], st := .live, ty := some 30 }

theorem long_ok {H : Heap} {r n : Nat} (hn : n ≤ 1000000) : den Tryd.prog hookG 27 [.slc r 0 n n 1 false] H = some (.tup [.agg [.int .i64 0, .int .i64 0], .bool false], H ++ [eB]) := by
  rw [den_of (hG (by decide) (by decide) (by decide) _ _) k27 (by simp [c27])]
  have : ¬ (1000000 : Int) < n := by omega
  simp [c27, c27.body, this, eB]

def jH (H : Heap) (r : Nat) (T : ByteArray) : Heap := H ++ [zB, eB, eB, eB, rdB r T (0 : Nat) 0 0]

theorem jH_pr {H : Heap} {r : Nat} {T : ByteArray} (hr : H[r]? = some { cells := cellsOfStr T, st := .live }) : PR (jH H r T) (H.length + 4) r T (0 : Nat) 0 0 :=
  ⟨by simp [jH], by have := lt_of_get hr; omega, _, get_push hr, rfl, .inl rfl⟩

theorem jparse_run {H H6 : Heap} {r j : Nat} {T : ByteArray} {ek ea : Int} {cs : List CV} (hT : T.size ≤ 1000000) (hr : H[r]? = some { cells := cellsOfStr T, st := .live })
    (hv : den Tryd.prog hookG 28 [.ptr (H.length + 4) 0, .int .i64 0] (jH H r T) = some (.agg cs, H6)) (V : VE (jH H r T) (H.length + 4) r T j ek ea cs H6) (hend : ek ≠ 0 ∨ ek = 0 ∧ ea = 0 ∧ j = T.size) :
    ∃ H', den Tryd.prog hookG 13 [.slc r 0 T.size T.size 1 false] H = some (.tup [.agg (if ek = 0 then cs else [.int .i64 0, .int .i64 0, .str (bs []), .nils, .nils, .int .i64 0]), .agg [.int .i64 ek, .int .i64 ea]], H') ∧ Fr (fun _ => False) H H' ∧ (∀ b, H.length + 4 < b → b < H6.length → H'[b]? = H6[b]?) := by
  have hl := long_ok (H := H ++ [zB, eB]) (r := r) hT
  have l6 := V.fr.1
  simp only [jH, List.length_append, List.length_cons, List.length_nil] at l6
  have hcl := V.len
  have hct : cs.take 6 = cs := List.take_of_length_le (Nat.le_of_eq hcl)
  have n0 : H.length < H6.length := by omega
  have n1 : H.length + 1 < H6.length := by omega
  obtain ⟨K, hK⟩ : ∃ K, H6 ++ [{ cells := cs, st := .live, ty := some 28 }] = K := ⟨_, rfl⟩
  have hkl : K.length = H6.length + 1 := by simp [← hK]
  have hold : ∀ b, b < H6.length → K[b]? = H6[b]? := fun b hb => by rw [← hK, List.getElem?_append_left hb]
  have k0 : K[H.length]? = some zB := by rw [hold _ n0, V.fr.2 _ (by simp [jH]) (by omega), jH, at_new0]; rfl
  have k1 : K[H.length + 1]? = some eB := by rw [hold _ n1, V.fr.2 _ (by simp [jH]) (by omega), jH, at_new]; rfl
  have P : PR K (H.length + 4) r T j ek ea := by rw [← hK]; exact V.pr.app
  have q := P.at_
  have hbad := bad_run P
  have t1 : ∀ c, (K.set H.length c)[H.length + 1]? = K[H.length + 1]? := fun c => by rw [List.getElem?_set_ne (by omega)]
  have t2 : ∀ c, (K.set H.length c)[H.length]? = some c := fun c => List.getElem?_set_self (by omega)
  have t3 : ∀ c d, ((K.set H.length c).set (H.length + 1) d)[H.length + 1]? = some d := fun c d => List.getElem?_set_self (by simp; omega)
  have main : ∀ v w, Fr (fun _ => False) H ((K.set H.length v).set (H.length + 1) w) ∧ (∀ b, H.length + 4 < b → b < H6.length → ((K.set H.length v).set (H.length + 1) w)[b]? = H6[b]?) := by
    refine fun v w => ⟨⟨by simp; omega, fun b hb _ => ?_⟩, fun b h4 h6 => ?_⟩
    · rw [List.getElem?_set_ne (by omega), List.getElem?_set_ne (by omega), hold b (by omega), V.fr.2 b (by simp [jH]; omega) (by omega), jH, List.getElem?_append_left hb]
    · rw [List.getElem?_set_ne (by omega), List.getElem?_set_ne (by omega), hold b h6]
  rcases hend with he | ⟨rfl, rfl, rfl⟩
  · have hbl := blanks_bad P he
    have hfl := fail_more P he 1 j
    refine ⟨_, ?_, main zB { eB with cells := [.int .i64 ek, .int .i64 ea] }⟩
    rw [den_of (hG (by decide) (by decide) (by decide) _ _) k13 (by simp [c13])]
    simp only [jH, zB, eB, rdB] at hl hv k0 k1 q
    simp at hl hv
    by_cases hj : j < T.size
    · have hjI : (j : Int) < T.size := by omega
      simp [c13, c13.body, hl, hv, hct, hcl, hbl, hfl, hbad, he, k0, k1, q, hj, hjI, hK, t1, t2, t3, zB, eB]
    · have hjI : ¬ (j : Int) < T.size := by omega
      simp [c13, c13.body, hl, hv, hct, hcl, hbl, hbad, he, k0, k1, q, hj, hjI, hK, t1, t2, t3, zB, eB]
  · have hbl := blanks_stop P (.inl (Nat.le_refl _))
    have kj : K[H6.length]? = some { cells := cs, st := .live, ty := some 28 } := by rw [← hK]; exact at_new0
    have tj : ∀ c, (K.set H.length c)[H6.length]? = K[H6.length]? := fun c => by rw [List.getElem?_set_ne (by omega)]
    refine ⟨_, ?_, main { zB with cells := cs } { eB with cells := [.int .i64 0, .int .i64 0] }⟩
    rw [den_of (hG (by decide) (by decide) (by decide) _ _) k13 (by simp [c13])]
    simp only [jH, zB, eB, rdB] at hl hv k0 k1 q
    simp at hl hv
    simp [c13, c13.body, hl, hv, hct, hcl, hbl, hbad, k0, k1, q, hK, kj, tj, t1, t2, t3, zB, eB]

end Go.Cn.D

