/- The relation between canonical values and memory and the machine's, and what reads and writes do to it. -/
import Derived.Test.YtlmlpgmpdaepkaaDoorCnDefs
import Derived.Deep.AppendSrc
import Derived.Deep.MidRow
import Derived.Below
set_option linter.unusedSimpArgs false
set_option linter.unusedVariables false
set_option linter.unusedSectionVars false
namespace Go.Cn

structure Pl where
  r : Nat
  δ : Nat
  tot : Nat
  deriving Inhabited

abbrev Mp := Nat → Option Pl
abbrev View := Nat → Option Blk

def SlcOK (pl : Pl) (a : Addr) (off len cap cap' k : Nat) (ex : Bool) : Prop :=
  len ≤ cap ∧ cap ≤ cap' ∧ (ex = true → cap' = cap) ∧ 0 < k ∧ (cap' = 0 ∨ (a = ⟨pl.r, pl.δ + off, none⟩ ∧ pl.δ + off + cap' * k ≤ pl.tot))

def VRc (μ : Mp) : CV → Value → Prop
  | .int k n, v => v = .int k n
  | .bool b, v => v = .bool b
  | .str s, v => v = .string s
  | .ptr b off, v => ∃ pl, μ b = some pl ∧ v = .pointer (some ⟨pl.r, pl.δ + off, none⟩)
  | .nilp, v => v = .pointer none
  | .slc b off len cap k ex, v => ∃ pl a cap', μ b = some pl ∧ v = .slice (some a) len cap' ∧ SlcOK pl a off len cap cap' k ex
  | .nils, v => v = .slice none 0 0
  | .fn f caps, v => ∃ vs : Array Value, v = .func (.func f) #[] vs ∧ vs.size = caps.length ∧
      ∀ (i : Nat) c, caps[i]? = some c → ∃ pl, μ c.1 = some pl ∧ vs[i]? = some (.pointer (some ⟨pl.r, pl.δ + c.2, none⟩))
  | .nilf, v => v = .nilFunc
  | .nili, v => v = .nilIface
  | .ifc t x, v => ∃ y, v = .iface t y ∧ VRc μ x y
  | _, _ => False

def VL (μ : Mp) : List CV → List Value → Prop
  | [], [] => True
  | c :: cs, v :: vs => VRc μ c v ∧ VL μ cs vs
  | _, _ => False

def VRa (μ : Mp) : CV → Value → Prop
  | .agg cs, v => ∃ vs : List Value, v = .agg vs.toArray ∧ VL μ cs vs
  | c, v => VRc μ c v

def VLa (μ : Mp) : List CV → List Value → Prop
  | [], [] => True
  | c :: cs, v :: vs => VRa μ c v ∧ VLa μ cs vs
  | _, _ => False

def VR (μ : Mp) : CV → Value → Prop
  | .tup cs, v => ∃ vs : List Value, v = .tuple vs.toArray ∧ VLa μ cs vs
  | .undef, v => v = undef
  | c, v => VRa μ c v

def Mp.le (μ μ' : Mp) : Prop := ∀ b pl, μ b = some pl → μ' b = some pl

theorem Mp.le_refl (μ : Mp) : μ.le μ := fun _ _ h => h
theorem Mp.le_trans {a b c : Mp} (h : a.le b) (k : b.le c) : a.le c := fun _ _ x => k _ _ (h _ _ x)

theorem VRc.mono {μ μ' : Mp} (hm : μ.le μ') : ∀ {c : CV} {v : Value}, VRc μ c v → VRc μ' c v
  | .int .., _, h | .bool _, _, h | .str _, _, h | .nilp, _, h | .nils, _, h | .nilf, _, h | .nili, _, h => h
  | .ptr .., _, ⟨pl, h, e⟩ => ⟨pl, hm _ _ h, e⟩
  | .slc .., _, ⟨pl, a, c, h, e⟩ => ⟨pl, a, c, hm _ _ h, e⟩
  | .fn .., _, ⟨vs, e, hs, h⟩ => ⟨vs, e, hs, fun i c hc => let ⟨pl, hp, hv⟩ := h i c hc; ⟨pl, hm _ _ hp, hv⟩⟩
  | .ifc .., _, ⟨y, e, h⟩ => ⟨y, e, VRc.mono hm h⟩

theorem VL.mono {μ μ' : Mp} (hm : μ.le μ') : ∀ {cs : List CV} {vs : List Value}, VL μ cs vs → VL μ' cs vs
  | [], [], _ => trivial
  | _ :: _, _ :: _, ⟨h, k⟩ => ⟨h.mono hm, k.mono hm⟩

theorem VRa.mono {μ μ' : Mp} (hm : μ.le μ') {c : CV} {v : Value} (h : VRa μ c v) : VRa μ' c v := by
  cases c <;> first
    | exact VRc.mono hm h
    | (obtain ⟨vs, e, k⟩ := h; exact ⟨vs, e, k.mono hm⟩)

theorem VLa.mono {μ μ' : Mp} (hm : μ.le μ') : ∀ {cs : List CV} {vs : List Value}, VLa μ cs vs → VLa μ' cs vs
  | [], [], _ => trivial
  | _ :: _, _ :: _, ⟨h, k⟩ => ⟨h.mono hm, k.mono hm⟩

theorem VR.mono {μ μ' : Mp} (hm : μ.le μ') {c : CV} {v : Value} (h : VR μ c v) : VR μ' c v := by
  cases c
  case tup => obtain ⟨vs, e, k⟩ := h; exact ⟨vs, e, k.mono hm⟩
  case undef => exact h
  all_goals (simp only [VR] at h ⊢; exact h.mono hm)

/-! ### lists -/

theorem VL.length {μ : Mp} : ∀ {cs : List CV} {vs : List Value}, VL μ cs vs → cs.length = vs.length
  | [], [], _ => rfl
  | _ :: _, _ :: _, ⟨_, k⟩ => by simp [k.length]

theorem VL.get {μ : Mp} : ∀ {cs : List CV} {vs : List Value}, VL μ cs vs → ∀ {i : Nat} {c : CV}, cs[i]? = some c → ∃ v, vs[i]? = some v ∧ VRc μ c v
  | _ :: _, v :: _, ⟨h, _⟩, 0, c, hc => ⟨v, rfl, by simp at hc; exact hc ▸ h⟩
  | _ :: _, _ :: _, ⟨_, k⟩, i + 1, c, hc => by
    obtain ⟨v, hv, hr⟩ := k.get (i := i) (c := c) (by simpa using hc)
    exact ⟨v, by simpa using hv, hr⟩

theorem VL.mk {μ : Mp} : ∀ {cs : List CV} {vs : List Value}, cs.length = vs.length → (∀ (i : Nat) c v, cs[i]? = some c → vs[i]? = some v → VRc μ c v) → VL μ cs vs
  | [], [], _, _ => trivial
  | c :: cs, v :: vs, hl, h => ⟨h 0 c v rfl rfl, VL.mk (by simpa using hl) fun i c' v' h1 h2 => h (i + 1) c' v' (by simpa using h1) (by simpa using h2)⟩
  | [], _ :: _, hl, _ => by simp at hl
  | _ :: _, [], hl, _ => by simp at hl

theorem VL.append {μ : Mp} : ∀ {cs ds : List CV} {vs us : List Value}, VL μ cs vs → VL μ ds us → VL μ (cs ++ ds) (vs ++ us)
  | [], _, [], _, _, k => k
  | _ :: _, _, _ :: _, _, ⟨h, k⟩, k' => ⟨h, k.append k'⟩

theorem VLa.length {μ : Mp} : ∀ {cs : List CV} {vs : List Value}, VLa μ cs vs → cs.length = vs.length
  | [], [], _ => rfl
  | _ :: _, _ :: _, ⟨_, k⟩ => by simp [k.length]

theorem VLa.get {μ : Mp} : ∀ {cs : List CV} {vs : List Value}, VLa μ cs vs → ∀ {i : Nat} {c : CV}, cs[i]? = some c → ∃ v, vs[i]? = some v ∧ VRa μ c v
  | _ :: _, v :: _, ⟨h, _⟩, 0, c, hc => ⟨v, rfl, by simp at hc; exact hc ▸ h⟩
  | _ :: _, _ :: _, ⟨_, k⟩, i + 1, c, hc => by
    obtain ⟨v, hv, hr⟩ := k.get (i := i) (c := c) (by simpa using hc)
    exact ⟨v, by simpa using hv, hr⟩

/-- a value's cells -/
theorem VRc.oneCell {μ : Mp} : ∀ {c : CV} {v : Value}, VRc μ c v → v.oneCell' = true
  | .int .., _, h | .bool _, _, h | .str _, _, h | .nilp, _, h | .nils, _, h | .nilf, _, h | .nili, _, h => by subst h; rfl
  | .ptr .., _, ⟨_, _, e⟩ => by subst e; rfl
  | .slc .., _, ⟨_, _, _, _, e, _⟩ => by subst e; rfl
  | .fn .., _, ⟨_, e, _⟩ => by subst e; rfl
  | .ifc .., _, ⟨_, e, _⟩ => by subst e; rfl

theorem VL.oneCell {μ : Mp} : ∀ {cs : List CV} {vs : List Value}, VL μ cs vs → ∀ v ∈ vs, v.oneCell' = true
  | [], [], _, v, hv => by cases hv
  | _ :: _, u :: us, ⟨h, k⟩, v, hv => by
    rcases List.mem_cons.1 hv with rfl | hv
    · exact h.oneCell
    · exact k.oneCell v hv

theorem VR.cells {μ : Mp} {c : CV} {v : Value} (h : VR μ c v) (ho : c.ok = true) : VL μ c.cells v.cells.toList := by
  cases c with
  | tup => simp [CV.ok] at ho
  | undef => simp [CV.ok] at ho
  | agg cs => obtain ⟨vs, rfl, k⟩ := h; simpa [CV.cells, Value.cells] using k
  | _ =>
    have h' : VRc μ _ v := h
    have := h'.oneCell
    cases v <;> simp [Value.oneCell'] at this <;> exact ⟨h', trivial⟩

/-- a one-cell value: VR is VRc -/
theorem VR.of_c {μ : Mp} {c : CV} {v : Value} (h : VRc μ c v) : VR μ c v := by
  cases c <;> first | exact h | exact h.elim

theorem VRa.of_c {μ : Mp} {c : CV} {v : Value} (h : VRc μ c v) : VRa μ c v := by
  cases c <;> first | exact h | exact h.elim

theorem VR.of_a {μ : Mp} {c : CV} {v : Value} (h : VRa μ c v) : VR μ c v := by
  cases c <;> first | exact h | exact (show False from h).elim

theorem VR.one {μ : Mp} {c : CV} {v : Value} (h : VR μ c v) (ho : c.one = true) : VRc μ c v := by
  cases c <;> first | exact h | (simp [CV.one] at ho)

/-! ### memory -/

def Blk.wr (b : Blk) : Prop := b.st = .live ∨ b.st = .iter

def BlkOK (μ : Mp) (w : World) (pl : Pl) (blk : Blk) : Prop :=
  if blk.st = .iter then
    ∃ s pos, blk.cells = [.str s, .int .i64 pos] ∧ 0 ≤ pos ∧ pl.δ = 0 ∧ w.heap[pl.r]? = some (.stringIter s pos.toNat)
  else
    ∃ arr el fr, w.heap[pl.r]? = some (.cells arr el fr) ∧ arr.size = pl.tot ∧ pl.δ + blk.cells.length ≤ pl.tot ∧
      (∀ (i : Nat) c, blk.cells[i]? = some c → ∃ v, arr[pl.δ + i]? = some v ∧ VRc μ c v) ∧ (blk.st = .live → fr.1 = fr.2 ∨ arr.size ≤ fr.1) ∧ (∀ t, blk.ty = some t → el = t ∧ pl.δ = 0 ∧ pl.tot = blk.cells.length) ∧ (∀ t, blk.el = some t → el = t)

structure SimV (μ : Mp) (K : View) (w : World) : Prop where
  dom : ∀ b pl, μ b = some pl → ∃ blk, K b = some blk
  blk : ∀ b blk, K b = some blk → ∃ pl, μ b = some pl ∧ (blk.st ≠ .dead → BlkOK μ w pl blk)
  inj : ∀ b b' blk blk' pl pl', K b = some blk → K b' = some blk' → b ≠ b' → μ b = some pl → μ b' = some pl' → blk.wr → blk'.st ≠ .dead → pl.r ≠ pl'.r

/-- what a step may do to the world -/
structure Step (μ : Mp) (K : View) (w : World) (μ' : Mp) (K' : View) (w' : World) : Prop where
  os : w'.os = w.os
  tape : w'.tape = w.tape
  output : w'.output = w.output
  size : w.heap.size ≤ w'.heap.size
  ext : μ.le μ'
  keep : ∀ r, r < w.heap.size → (∀ b blk pl, K b = some blk → blk.wr → μ b = some pl → pl.r ≠ r) → w'.heap[r]? = w.heap[r]?
  own : ∀ b blk pl, K' b = some blk → blk.wr → μ' b = some pl → w.heap.size ≤ pl.r ∨ ∃ b0 blk0 pl0, K b0 = some blk0 ∧ blk0.wr ∧ μ b0 = some pl0 ∧ pl0.r = pl.r

theorem Step.refl (μ : Mp) (K : View) (w : World) : Step μ K w μ K w :=
  ⟨rfl, rfl, rfl, Nat.le_refl _, Mp.le_refl _, fun _ _ _ => rfl, fun b blk pl h hw hm => .inr ⟨b, blk, pl, h, hw, hm, rfl⟩⟩

theorem Step.trans {μ μ1 μ2 : Mp} {K K1 K2 : View} {w w1 w2 : World} (h : Step μ K w μ1 K1 w1) (k : Step μ1 K1 w1 μ2 K2 w2) : Step μ K w μ2 K2 w2 where
  os := k.os.trans h.os
  tape := k.tape.trans h.tape
  output := k.output.trans h.output
  size := Nat.le_trans h.size k.size
  ext := Mp.le_trans h.ext k.ext
  keep := fun r hr hn => by
    rw [k.keep r (Nat.lt_of_lt_of_le hr h.size) ?_, h.keep r hr hn]
    intro b blk pl hK hw hm he
    rcases h.own b blk pl hK hw hm with ho | ⟨b0, blk0, pl0, h0, hw0, hm0, he0⟩
    · omega
    · exact hn b0 blk0 pl0 h0 hw0 hm0 (he0.trans he)
  own := fun b blk pl hK hw hm => by
    rcases k.own b blk pl hK hw hm with ho | ⟨b0, blk0, pl0, h0, hw0, hm0, he0⟩
    · exact .inl (Nat.le_trans h.size ho)
    · rcases h.own b0 blk0 pl0 h0 hw0 hm0 with ho | ⟨b1, blk1, pl1, h1, hw1, hm1, he1⟩
      · exact .inl (he0 ▸ ho)
      · exact .inr ⟨b1, blk1, pl1, h1, hw1, hm1, he1.trans he0⟩

open Classical in
/-- the view behind an operation that turned h into h' -/
noncomputable def updK (K : View) (h h' : Heap) : View := fun b =>
  if b < h.length then (if K b = none ∨ h'[b]? = h[b]? then K b else h'[b]?) else if b < h'.length then h'[b]? else K b

/-- the canonical heap tells of the view on these blocks -/
def Agree (K : View) (h : Heap) (T : Nat → Prop) : Prop := ∀ b blk, T b → b < h.length → K b = some blk → h[b]? = some blk

end Go.Cn
