/- json.Same, and the document's. -/
import Derived.Test.YtlmlpgmpdaepkaaDoorCdJson
import Derived.Test.YtlmlpgmpdaepkaaDoorCnWalk
set_option linter.unusedSimpArgs false
set_option linter.unusedVariables false
set_option linter.unusedSectionVars false
namespace Go.Cn.D
open Go.Proofs
set_option maxRecDepth 100000

/-- where the i-th of a's is looked for in b -/
def pickJ (a b : J) (i : Nat) : Option Nat := match a.keys[i]? with
  | some k => b.keys.findIdx? fun x => decide (x = k)
  | none => some i

def sameAt (f : J → J → Bool) (a b : J) (i : Nat) : Bool := match a.list[i]?, (pickJ a b i).bind (b.list[·]?) with
  | some x, some y => f x y
  | _, _ => false

def sameN : Nat → J → J → Bool
  | 0, _, _ => false
  | n + 1, a, b => decide (a.kind = b.kind) && (decide (a.num = b.num) && (decide (a.text = b.text) && (decide (a.list.length = b.list.length) && (decide (a.keys.length = b.keys.length) &&
      (List.range a.list.length).all fun i => sameAt (sameN n) a b i))))

/-- from the i-th on -/
def sameFrom (n : Nat) (a b : J) (i : Nat) : Bool := (List.range' i (a.list.length - i)).all fun i => sameAt (sameN n) a b i

theorem sameFrom_end {n : Nat} {a b : J} {i : Nat} (h : a.list.length ≤ i) : sameFrom n a b i = true := by
  simp [sameFrom, show a.list.length - i = 0 by omega]

theorem sameFrom_step {n : Nat} {a b : J} {i : Nat} (h : i < a.list.length) : sameFrom n a b i = (sameAt (sameN n) a b i && sameFrom n a b (i + 1)) := by
  unfold sameFrom
  obtain ⟨m, hm⟩ : ∃ m, a.list.length - i = m + 1 := ⟨a.list.length - i - 1, by omega⟩
  rw [hm, List.range'_succ, List.all_cons, show a.list.length - (i + 1) = m by omega]

theorem sameN_succ {n : Nat} {a b : J} : sameN (n + 1) a b = (decide (a.kind = b.kind) && (decide (a.num = b.num) && (decide (a.text = b.text) && (decide (a.list.length = b.list.length) && (decide (a.keys.length = b.keys.length) && sameFrom n a b 0))))) := by
  rw [sameN, sameFrom, Nat.sub_zero, List.range_eq_range']

def SameOK (f : FuncId) (P : Nat → J → Prop) (n : Nat) : Prop := ∀ (S T : Nat → Prop) (H : Heap) (a b : J) (ca cb : List CV), RJ n S H a ca → RJ n T H b cb → P n a → P n b →
  ∃ G, den Tryd.prog hookD f [.agg ca, .agg cb] H = some (.bool (sameN n a b), H ++ G)

def Small : Nat → J → Prop
  | 0, _ => True
  | n + 1, j => j.list.length ≤ 1000000 ∧ j.keys.length ≤ 1000000 ∧ ∀ x ∈ j.list, Small n x

theorem round16_end {e : Env} {H : Heap} {n i : Nat} (h47 : e 47 = .int .i64 n) (h48 : e 48 = .int .i64 i) (hi : n ≤ i) : ∃ e', dCode Tryd.prog hookD c16.l0 e H = some (.exit 0, e', H) := by
  have hge : ¬ i < n := by omega
  simp [c16.l0, h47, h48, hge]

/-- one round: the child's answer decides -/
theorem round16 {n : Nat} (ih : SameOK 16 Small n) {S T : Nat → Prop} {H : Heap} {e : Env} {a b : J} {pa pb i : Nat} {la ka lb kb : CV} {xa xb : List (List CV)}
    (h2 : e 2 = .ptr pa 0) (h3 : e 3 = .ptr pb 0) (h46 : e 46 = la) (h47 : e 47 = .int .i64 a.list.length) (h48 : e 48 = .int .i64 i) (hi : i < a.list.length)
    (hpa : H[pa]? = some { cells := [.int .i64 a.kind, .int .i64 a.num, .str a.text, la, ka, .int .i64 a.pos], st := .live }) (hpb : H[pb]? = some { cells := [.int .i64 b.kind, .int .i64 b.num, .str b.text, lb, kb, .int .i64 b.pos], st := .live })
    (sla : Sl S H 6 la xa) (hla : xa.length = a.list.length) (ra : ∀ (i : Nat) x c, a.list[i]? = some x → xa[i]? = some c → RJ n S H x c) (ska : Sl S H 1 ka (strs a.keys))
    (slb : Sl T H 6 lb xb) (hlb : xb.length = b.list.length) (rb : ∀ (i : Nat) x c, b.list[i]? = some x → xb[i]? = some c → RJ n T H x c) (skb : Sl T H 1 kb (strs b.keys))
    (sa : Small (n + 1) a) (sb : Small (n + 1) b) :
    ∃ x e' G, dCode Tryd.prog hookD c16.l0 e H = some (x, e', H ++ G) ∧ (match sameAt (sameN n) a b i with
      | true => x = .normal ∧ e' 2 = .ptr pa 0 ∧ e' 3 = .ptr pb 0 ∧ e' 46 = la ∧ e' 47 = .int .i64 a.list.length ∧ e' 48 = .int .i64 ((i + 1 : Nat) : Int)
      | false => x = .ret ∧ e' 4 = .bool false) := by
  obtain ⟨x, hx⟩ : ∃ x, a.list[i]? = some x := ⟨_, List.getElem?_eq_getElem hi⟩
  obtain ⟨c, hc⟩ : ∃ c, xa[i]? = some c := ⟨_, List.getElem?_eq_getElem (by omega)⟩
  have rx := ra i x c hx hc
  obtain ⟨b1, o1, ha1, hl1, _⟩ := sla.at hc
  have hcl := sla.elems c (List.mem_of_getElem? hc)
  have hlt1 := lt_of_get hpa
  have hlt2 := lt_of_get hpb
  have hw : IntKind.i64.wrap ((i : Int) + 1) = ((i + 1 : Nat) : Int) := by
    have := sa.1
    rw [IntKind.wrap_i64]; omega
  let blk : Blk := { cells := c, st := .live, ty := some 28 }
  have hpa1 : (H ++ [blk])[pa]? = _ := get_push hpa
  have hpb1 : (H ++ [blk])[pb]? = _ := get_push hpb
  have hl0 := hl1
  rw [ld_eq] at hl0
  have e0 : (H ++ [({ cells := [.int .i64 0, .int .i64 0, .str (bs []), .nils, .nils, .int .i64 0], st := .live, ty := some 28 } : Blk)]).set H.length { cells := c, st := .live, ty := some 28 } = H ++ [blk] := by simp [blk]
  have hb1 : (H ++ [blk])[H.length]? = some blk := get_new
  have lka := fun h => ska.len (h := h)
  have llb := fun h => slb.len (h := h)
  simp only [strs_len] at lka
  have hsp : splice [.int .i64 0, .int .i64 0, .str (bs []), .nils, .nils, .int .i64 0] 0 c = c := by simp [splice, hcl]
  have hct : c.take 6 = c := List.take_of_length_le (Nat.le_of_eq hcl)
  cases hk : a.keys[i]? with
  | none =>
    have hge : ¬ i < a.keys.length := by
      intro h
      rw [List.getElem?_eq_getElem h] at hk; simp at hk
    simp only [sameAt, pickJ, hx, hk, Option.bind_some]
    cases hy : b.list[i]? with
    | none =>
      have hg2 : b.list.length ≤ i := by simpa using hy
      have hnn : ¬ (i : Int) < 0 := by omega
      have key : ∃ e', dCode Tryd.prog hookD c16.l0 e H = some (.ret, e', H ++ [blk]) ∧ e' 4 = .bool false := by simp [c16.l0, h2, h3, h46, h47, h48, hi, ha1, hl0, e0, hpa1, hcl, hsp, hb1, lka, hpb1, hlb, llb, hct, blk, hnn, hg2, hge]
      obtain ⟨e', k1, k2⟩ := key
      exact ⟨.ret, e', [blk], k1, by rfl, k2⟩
    | some y =>
      have hlt : i < b.list.length := (List.getElem?_eq_some_iff.1 hy).1
      obtain ⟨d, hd⟩ : ∃ d, xb[i]? = some d := ⟨_, List.getElem?_eq_getElem (by omega)⟩
      have ry := rb i y d hy hd
      obtain ⟨b2, o2, ha2, hl2, _⟩ := (slb.app (G := [blk])).at hd
      have hl3 := hl2
      rw [ld_eq] at hl3
      obtain ⟨G, hcall⟩ := ih S T (H ++ [blk]) x y c d rx.app ry.app (sa.2.2 x (List.mem_of_getElem? hx)) (sb.2.2 y (List.mem_of_getElem? hy))
      have hnn : ¬ (i : Int) < 0 := by omega
      have hnl : ¬ b.list.length ≤ i := by omega
      cases hr : sameN n x y with
      | true =>
        rw [hr] at hcall
        have key : ∃ e', dCode Tryd.prog hookD c16.l0 e H = some (.normal, e', H ++ ([blk] ++ G)) ∧ e' 2 = .ptr pa 0 ∧ e' 3 = .ptr pb 0 ∧ e' 46 = la ∧ e' 47 = .int .i64 a.list.length ∧ e' 48 = .int .i64 ((i + 1 : Nat) : Int) := by simp [c16.l0, h2, h3, h46, h47, h48, hi, ha1, hl0, e0, hpa1, hcl, hsp, hb1, lka, hpb1, hlb, llb, hct, blk, hnn, hnl, ha2, hl3, hcall, hw, hge]
        obtain ⟨e', k1, k2⟩ := key
        exact ⟨.normal, e', [blk] ++ G, k1, by simp only [hr]; exact ⟨trivial, k2⟩⟩
      | false =>
        rw [hr] at hcall
        have key : ∃ e', dCode Tryd.prog hookD c16.l0 e H = some (.ret, e', H ++ ([blk] ++ G)) ∧ e' 4 = .bool false := by simp [c16.l0, h2, h3, h46, h47, h48, hi, ha1, hl0, e0, hpa1, hcl, hsp, hb1, lka, hpb1, hlb, llb, hct, blk, hnn, hnl, ha2, hl3, hcall, hge]
        obtain ⟨e', k1, k2⟩ := key
        exact ⟨.ret, e', [blk] ++ G, k1, by simp only [hr]; exact ⟨trivial, k2⟩⟩
  | some k =>
    have hlk : i < a.keys.length := (List.getElem?_eq_some_iff.1 hk).1
    obtain ⟨b3, o3, ha3, hl4, _⟩ := (ska.app (G := [blk])).at (strs_at hk)
    have hl5 := hl4
    rw [ld_eq] at hl5
    have hix := index_run (s := k) (skb.app (G := [blk])) (by have := sb.2.1; omega)
    simp only [sameAt, pickJ, hx, hk]
    cases hf : b.keys.findIdx? (fun x => decide (x = k)) with
    | none =>
      rw [hf] at hix
      simp only [Option.bind_none]
      have key : ∃ e', dCode Tryd.prog hookD c16.l0 e H = some (.ret, e', H ++ [blk]) ∧ e' 4 = .bool false := by simp [c16.l0, h2, h3, h46, h47, h48, hi, ha1, hl0, e0, hpa1, hcl, hsp, hb1, lka, hpb1, hlb, llb, hct, blk, hlk, ha3, hl5, hix, optI]
      obtain ⟨e', k1, k2⟩ := key
      exact ⟨.ret, e', [blk], k1, by rfl, k2⟩
    | some q =>
      rw [hf] at hix
      simp only [Option.bind_some]
      cases hy : b.list[q]? with
      | none =>
        have hg2 : b.list.length ≤ q := by simpa using hy
        have hnn : ¬ (q : Int) < 0 := by omega
        have key : ∃ e', dCode Tryd.prog hookD c16.l0 e H = some (.ret, e', H ++ [blk]) ∧ e' 4 = .bool false := by simp [c16.l0, h2, h3, h46, h47, h48, hi, ha1, hl0, e0, hpa1, hcl, hsp, hb1, lka, hpb1, hlb, llb, hct, blk, hnn, hg2, hlk, ha3, hl5, hix, optI]
        obtain ⟨e', k1, k2⟩ := key
        exact ⟨.ret, e', [blk], k1, by rfl, k2⟩
      | some y =>
        have hlt : q < b.list.length := (List.getElem?_eq_some_iff.1 hy).1
        obtain ⟨d, hd⟩ : ∃ d, xb[q]? = some d := ⟨_, List.getElem?_eq_getElem (by omega)⟩
        have ry := rb q y d hy hd
        obtain ⟨b2, o2, ha2, hl2, _⟩ := (slb.app (G := [blk])).at hd
        have hl3 := hl2
        rw [ld_eq] at hl3
        obtain ⟨G, hcall⟩ := ih S T (H ++ [blk]) x y c d rx.app ry.app (sa.2.2 x (List.mem_of_getElem? hx)) (sb.2.2 y (List.mem_of_getElem? hy))
        have hnn : ¬ (q : Int) < 0 := by omega
        have hnl : ¬ b.list.length ≤ q := by omega
        cases hr : sameN n x y with
        | true =>
          rw [hr] at hcall
          have key : ∃ e', dCode Tryd.prog hookD c16.l0 e H = some (.normal, e', H ++ ([blk] ++ G)) ∧ e' 2 = .ptr pa 0 ∧ e' 3 = .ptr pb 0 ∧ e' 46 = la ∧ e' 47 = .int .i64 a.list.length ∧ e' 48 = .int .i64 ((i + 1 : Nat) : Int) := by simp [c16.l0, h2, h3, h46, h47, h48, hi, ha1, hl0, e0, hpa1, hcl, hsp, hb1, lka, hpb1, hlb, llb, hct, blk, hnn, hnl, ha2, hl3, hcall, hw, hlk, ha3, hl5, hix, optI]
          obtain ⟨e', k1, k2⟩ := key
          exact ⟨.normal, e', [blk] ++ G, k1, by simp only [hr]; exact ⟨trivial, k2⟩⟩
        | false =>
          rw [hr] at hcall
          have key : ∃ e', dCode Tryd.prog hookD c16.l0 e H = some (.ret, e', H ++ ([blk] ++ G)) ∧ e' 4 = .bool false := by simp [c16.l0, h2, h3, h46, h47, h48, hi, ha1, hl0, e0, hpa1, hcl, hsp, hb1, lka, hpb1, hlb, llb, hct, blk, hnn, hnl, ha2, hl3, hcall, hlk, ha3, hl5, hix, optI]
          obtain ⟨e', k1, k2⟩ := key
          exact ⟨.ret, e', [blk] ++ G, k1, by simp only [hr]; exact ⟨trivial, k2⟩⟩

theorem loop16 {n : Nat} (ih : SameOK 16 Small n) {S T : Nat → Prop} {a b : J} {pa pb : Nat} {la ka lb kb : CV} {xa xb : List (List CV)} (hla : xa.length = a.list.length) (hlb : xb.length = b.list.length) (sa : Small (n + 1) a) (sb : Small (n + 1) b) : ∀ (m i : Nat) (e : Env) (H : Heap), i + m = a.list.length →
    e 2 = .ptr pa 0 → e 3 = .ptr pb 0 → e 46 = la → e 47 = .int .i64 a.list.length → e 48 = .int .i64 i →
    H[pa]? = some { cells := [.int .i64 a.kind, .int .i64 a.num, .str a.text, la, ka, .int .i64 a.pos], st := .live } → H[pb]? = some { cells := [.int .i64 b.kind, .int .i64 b.num, .str b.text, lb, kb, .int .i64 b.pos], st := .live } →
    Sl S H 6 la xa → (∀ (i : Nat) x c, a.list[i]? = some x → xa[i]? = some c → RJ n S H x c) → Sl S H 1 ka (strs a.keys) →
    Sl T H 6 lb xb → (∀ (i : Nat) x c, b.list[i]? = some x → xb[i]? = some c → RJ n T H x c) → Sl T H 1 kb (strs b.keys) →
    ∃ x e' G, dCode Tryd.prog hookD (.loop c16.l0) e H = some (x, e', H ++ G) ∧ (if sameFrom n a b i = true then x = .exit 0 else x = .ret ∧ e' 4 = .bool false) := by
  intro m
  induction m with
  | zero =>
    intro i e H hi h2 h3 h46 h47 h48 _ _ _ _ _ _ _ _
    obtain ⟨e', k⟩ := round16_end (H := H) h47 h48 (by omega)
    exact ⟨.exit 0, e', [], by rw [loop_step, k, next_exit]; simp, by rw [if_pos (sameFrom_end (by omega))]⟩
  | succ m ihm =>
    intro i e H hi h2 h3 h46 h47 h48 hpa hpb sla ra ska slb rb skb
    obtain ⟨x, e1, G, k, hr⟩ := round16 ih h2 h3 h46 h47 h48 (by omega) hpa hpb sla hla ra ska slb hlb rb skb sa sb
    rw [sameFrom_step (by omega : i < a.list.length)]
    split at hr
    · rename_i hv
      obtain ⟨rfl, a1, a2, a3, a4, a5⟩ := hr
      obtain ⟨x2, e2, G2, k2, hr2⟩ := ihm (i + 1) e1 (H ++ G) (by omega) a1 a2 a3 a4 a5 (get_push hpa) (get_push hpb) sla.app (fun i x c h1 h2 => (ra i x c h1 h2).app) ska.app slb.app (fun i x c h1 h2 => (rb i x c h1 h2).app) skb.app
      refine ⟨x2, e2, G ++ G2, by rw [loop_step, k, next_normal, k2, List.append_assoc], ?_⟩
      rw [hv, Bool.true_and]
      exact hr2
    · rename_i hv
      obtain ⟨rfl, a1⟩ := hr
      refine ⟨.ret, e1, G, by rw [loop_step, k, next_ret], ?_⟩
      rw [hv, Bool.false_and, if_neg (by simp)]
      exact ⟨rfl, a1⟩

theorem ex_app {X : Option (CV × Heap)} {v : CV} {H L : Heap} (h : ∃ G, X = some (v, (H ++ L) ++ G)) : ∃ G, X = some (v, H ++ G) := by
  obtain ⟨G, h⟩ := h
  exact ⟨L ++ G, by rw [h, List.append_assoc]⟩

theorem tail16 {n : Nat} (ih : SameOK 16 Small n) {S T : Nat → Prop} {a b : J} {pa pb : Nat} {la ka lb kb : CV} {xa xb : List (List CV)} {e : Env} {H : Heap} (hla : xa.length = a.list.length) (hlb : xb.length = b.list.length) (sa : Small (n + 1) a) (sb : Small (n + 1) b)
    (h2 : e 2 = .ptr pa 0) (h3 : e 3 = .ptr pb 0)
    (hpa : H[pa]? = some { cells := [.int .i64 a.kind, .int .i64 a.num, .str a.text, la, ka, .int .i64 a.pos], st := .live }) (hpb : H[pb]? = some { cells := [.int .i64 b.kind, .int .i64 b.num, .str b.text, lb, kb, .int .i64 b.pos], st := .live })
    (sla : Sl S H 6 la xa) (ra : ∀ (i : Nat) x c, a.list[i]? = some x → xa[i]? = some c → RJ n S H x c) (ska : Sl S H 1 ka (strs a.keys))
    (slb : Sl T H 6 lb xb) (rb : ∀ (i : Nat) x c, b.list[i]? = some x → xb[i]? = some c → RJ n T H x c) (skb : Sl T H 1 kb (strs b.keys)) :
    ∃ G, fin [(4, none)] (dCode Tryd.prog hookD c16.s0 e H) = some (.bool (sameFrom n a b 0), H ++ G) := by
  have lla := fun h => sla.len (h := h)
  obtain ⟨x, e', G, k, hr⟩ := loop16 ih hla hlb sa sb a.list.length 0 ((((e.put (some 45) (.ptr pa 3)).put (some 46) la).put (some 47) (.int .i64 a.list.length)).put (some 48) (.int .i64 0)) H (by omega) (by simp [h2]) (by simp [h3]) (by simp) (by simp) (by simp) hpa hpb sla ra ska slb rb skb
  refine ⟨G, ?_⟩
  split at hr
  · rename_i hv
    subst hr
    simp [c16.s0, h2, hpa, lla, hla, k, hv]
  · rename_i hv
    obtain ⟨rfl, h4⟩ := hr
    simp [c16.s0, h2, hpa, lla, hla, k, hv, h4]

theorem same16 : ∀ n, SameOK 16 Small n := by
  intro n
  induction n with
  | zero => intro S T H a b ca cb ha; exact ha.elim
  | succ n ih =>
    rintro S T H a b ca cb ⟨la, ka, xa, rfl, sla, hla, ra, ska⟩ ⟨lb, kb, xb, rfl, slb, hlb, rb, skb⟩ sa sb
    let A : Blk := { cells := [.int .i64 a.kind, .int .i64 a.num, .str a.text, la, ka, .int .i64 a.pos], st := .live }
    let B : Blk := { cells := [.int .i64 b.kind, .int .i64 b.num, .str b.text, lb, kb, .int .i64 b.pos], st := .live }
    have lla := fun h => sla.len (h := h)
    have llb := fun h => slb.len (h := h)
    have lka := fun h => ska.len (h := h)
    have lkb := fun h => skb.len (h := h)
    simp only [strs_len] at lka lkb
    rw [den_of (hdN (by decide) _ _) k16 (by simp [c16])]
    rw [sameN_succ]
    by_cases h1 : a.kind = b.kind
    · by_cases h2 : a.num = b.num
      · by_cases h3 : a.text = b.text
        · by_cases h4 : a.list.length = b.list.length
          · have h4I : (a.list.length : Int) = b.list.length := by omega
            by_cases h5 : a.keys.length = b.keys.length
            · have h5I : (a.keys.length : Int) = b.keys.length := by omega
              simp [c16, c16.body, hla, hlb, lla, llb, lka, lkb, h1, h2, h3, h4I, h5I, h4, h5]
              refine ex_app (L := _) (tail16 (pa := H.length) (pb := H.length + 1) ih hla hlb sa sb ?_ ?_ ?_ ?_ sla.app (fun i x c p q => (ra i x c p q).app) ska.app slb.app (fun i x c p q => (rb i x c p q).app) skb.app)
              · simp
              · simp
              · simp [h1, h2, h3]
              · simp
            · refine ⟨[A, B], ?_⟩
              have h5I : ¬ (a.keys.length : Int) = b.keys.length := by omega
              simp [c16, c16.body, hla, hlb, lla, llb, lka, lkb, h1, h2, h3, h4I, h5, h5I, A, B]
          · refine ⟨[A, B], ?_⟩
            have h4I : ¬ (a.list.length : Int) = b.list.length := by omega
            simp [c16, c16.body, hla, hlb, lla, llb, lka, lkb, h1, h2, h3, h4, h4I, A, B]
        · refine ⟨[A, B], ?_⟩
          simp [c16, c16.body, hla, hlb, lla, llb, lka, lkb, h1, h2, h3, A, B]
      · refine ⟨[A, B], ?_⟩
        simp [c16, c16.body, hla, hlb, lla, llb, lka, lkb, h1, h2, A, B]
    · refine ⟨[A, B], ?_⟩
      simp [c16, c16.body, hla, hlb, lla, llb, lka, lkb, h1, A, B]

end Go.Cn.D
