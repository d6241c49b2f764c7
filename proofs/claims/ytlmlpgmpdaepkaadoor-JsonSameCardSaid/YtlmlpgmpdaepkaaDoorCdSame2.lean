/- The document's Same. -/
import Derived.Test.YtlmlpgmpdaepkaaDoorCdSame
set_option linter.unusedSimpArgs false
set_option linter.unusedVariables false
set_option linter.unusedSectionVars false
namespace Go.Cn.D
open Go.Proofs
set_option maxRecDepth 100000

def WfJ : Nat → J → Prop
  | 0, _ => True
  | n + 1, j => j.list.length ≤ 1000000 ∧ j.keys.length ≤ 1000000 ∧ (j.kind = 7 → j.keys.length = j.list.length) ∧ (j.kind ≠ 7 → j.keys = []) ∧ j.keys.Nodup ∧ ∀ x ∈ j.list, WfJ n x

theorem WfJ.small : ∀ {n : Nat} {j : J}, WfJ n j → Small n j
  | 0, _, _ => trivial
  | n + 1, j, ⟨h1, h2, _, _, _, h6⟩ => ⟨h1, h2, fun x hx => (h6 x hx).small⟩

theorem key_loop {S : Nat → Prop} {H : Heap} {p : Nat} {l kcv : CV} {xs : List (List CV)} {b : J} {s : ByteArray} (hp : H[p]? = some { cells := [.int .i64 b.kind, .int .i64 b.num, .str b.text, l, kcv, .int .i64 b.pos], st := .live }) (hS : Sl S H 1 kcv (strs b.keys)) (hL : Sl S H 6 l xs) (hlx : xs.length = b.keys.length) (hb : b.keys.length < 2 ^ 62) :
    ∀ (n i : Nat) (e : Env), i + n = b.keys.length → e 1 = .str s → e 2 = .ptr p 0 → e 5 = .int .i64 i →
    ∃ x e', dCode Tryd.prog hookD (.loop c26.l0) e H = some (x, e', H) ∧ (match (b.keys.drop i).findIdx? (fun k => decide (k = s)) with | some j => x = .ret ∧ e' 4 = .int .i64 ((i + j : Nat) : Int) | none => x = .exit 0) := by
  intro n
  have hl := fun h => hS.len (h := h)
  have hl2 := fun h => hL.len (h := h)
  simp only [strs_len] at hl
  induction n with
  | zero =>
    intro i e hi h1 h2 h5
    have hge : ¬ i < b.keys.length := by omega
    have key : ∃ e', dCode Tryd.prog hookD c26.l0 e H = some (.exit 0, e', H) := by simp [c26.l0, h2, h5, hp, hl, hge]
    obtain ⟨e', k⟩ := key
    refine ⟨.exit 0, e', by rw [loop_step, k, next_exit], ?_⟩
    rw [List.drop_eq_nil_of_le (by omega)]
    rfl
  | succ n ih =>
    intro i e hi h1 h2 h5
    have hlt : i < b.keys.length := by omega
    obtain ⟨k, hk⟩ : ∃ k, b.keys[i]? = some k := ⟨_, List.getElem?_eq_getElem hlt⟩
    obtain ⟨b1, o, ha, hld, _⟩ := hS.at (strs_at hk)
    rw [ld_eq] at hld
    have hdrop : b.keys.drop i = k :: b.keys.drop (i + 1) := by
      rw [List.drop_eq_getElem_cons hlt]
      rw [List.getElem?_eq_getElem hlt] at hk
      simp at hk; rw [hk]
    have hw : IntKind.i64.wrap ((i : Int) + 1) = ((i + 1 : Nat) : Int) := by rw [IntKind.wrap_i64]; omega
    rw [hdrop, List.findIdx?_cons]
    by_cases hks : k = s
    · have key : ∃ e', dCode Tryd.prog hookD c26.l0 e H = some (.ret, e', H) ∧ e' 4 = .int .i64 (i : Int) := by simp [c26.l0, h1, h2, h5, hlt, ha, hld, hp, hl, hl2, hlx, hks]
      obtain ⟨e', k1, k2⟩ := key
      refine ⟨.ret, e', by rw [loop_step, k1, next_ret], ?_⟩
      simp [hks, k2]
    · have key : ∃ e', dCode Tryd.prog hookD c26.l0 e H = some (.normal, e', H) ∧ e' 1 = .str s ∧ e' 2 = .ptr p 0 ∧ e' 5 = .int .i64 ((i + 1 : Nat) : Int) := by simp [c26.l0, h1, h2, h5, hlt, ha, hld, hp, hl, hl2, hlx, hks, hw]
      obtain ⟨e', k1, k2, k3, k4⟩ := key
      obtain ⟨x, e2, d, hr⟩ := ih (i + 1) e' (by omega) k2 k3 k4
      refine ⟨x, e2, by rw [loop_step, k1, next_normal, d], ?_⟩
      simp only [hks, decide_false]
      cases hq : (b.keys.drop (i + 1)).findIdx? (fun k => decide (k = s)) with
      | none => rw [hq] at hr; simpa using hr
      | some j =>
        rw [hq] at hr
        simp only [Bool.false_eq_true, if_false, Option.map_some]
        refine ⟨hr.1, ?_⟩
        rw [hr.2]
        congr 1
        omega

theorem key_run {S : Nat → Prop} {H : Heap} {l kcv : CV} {xs : List (List CV)} {b : J} {s : ByteArray} (hS : Sl S H 1 kcv (strs b.keys)) (hL : Sl S H 6 l xs) (hlx : xs.length = b.keys.length) (hb : b.keys.length < 2 ^ 62) :
    den Tryd.prog hookD 26 [.agg [.int .i64 b.kind, .int .i64 b.num, .str b.text, l, kcv, .int .i64 b.pos], .str s] H = some (.int .i64 (optI (b.keys.findIdx? (fun k => decide (k = s)))), H ++ [{ cells := [.int .i64 b.kind, .int .i64 b.num, .str b.text, l, kcv, .int .i64 b.pos], st := .live }]) := by
  rw [den_of (hdN (by decide) _ _) k26 (by simp [c26])]
  let B : Blk := { cells := [.int .i64 b.kind, .int .i64 b.num, .str b.text, l, kcv, .int .i64 b.pos], st := .live }
  have main : ∀ (e : Env), e 1 = .str s → e 2 = .ptr H.length 0 → fin [(4, none)] (dCode Tryd.prog hookD c26.s0 e (H ++ [B])) = some (.int .i64 (optI (b.keys.findIdx? (fun k => decide (k = s)))), H ++ [B]) := by
    intro e h1 h2
    obtain ⟨x, e', d, hr⟩ := key_loop (s := s) (p := H.length) (H := H ++ [B]) (b := b) get_new hS.app hL.app hlx hb b.keys.length 0 (e.put (some 5) (.int .i64 0)) (by omega) (by simp [h1]) (by simp [h2]) (by simp)
    simp only [List.drop_zero] at hr
    split at hr
    · rename_i j hj
      obtain ⟨rfl, h4⟩ := hr
      simp [c26.s0, d, hj, h4, optI]
    · rename_i hj
      subst hr
      simp [c26.s0, d, hj, optI]
  simp [c26, c26.body]
  exact main _ (by simp) (by simp)

theorem round12_end {S : Nat → Prop} {e : Env} {H : Heap} {a : J} {pa i : Nat} {la ka : CV} {xa : List (List CV)} (h2 : e 2 = .ptr pa 0) (h5 : e 5 = .int .i64 i)
    (hpa : H[pa]? = some { cells := [.int .i64 a.kind, .int .i64 a.num, .str a.text, la, ka, .int .i64 a.pos], st := .live }) (sla : Sl S H 6 la xa) (hi : xa.length ≤ i) : ∃ e', dCode Tryd.prog hookD c12.l0 e H = some (.exit 0, e', H) := by
  have hge : ¬ i < xa.length := by omega
  have lla := fun h => sla.len (h := h)
  simp [c12.l0, h2, h5, hpa, lla, hge]

theorem round12 {n : Nat} (ih : SameOK 12 WfJ n) {S T : Nat → Prop} {H : Heap} {e : Env} {a b : J} {pa pb i : Nat} {la ka lb kb : CV} {xa xb : List (List CV)}
    (h2 : e 2 = .ptr pa 0) (h3 : e 3 = .ptr pb 0) (h5 : e 5 = .int .i64 i) (hi : i < a.list.length)
    (hpa : H[pa]? = some { cells := [.int .i64 a.kind, .int .i64 a.num, .str a.text, la, ka, .int .i64 a.pos], st := .live }) (hpb : H[pb]? = some { cells := [.int .i64 b.kind, .int .i64 b.num, .str b.text, lb, kb, .int .i64 b.pos], st := .live })
    (sla : Sl S H 6 la xa) (hla : xa.length = a.list.length) (ra : ∀ (i : Nat) x c, a.list[i]? = some x → xa[i]? = some c → RJ n S H x c) (ska : Sl S H 1 ka (strs a.keys))
    (slb : Sl T H 6 lb xb) (hlb : xb.length = b.list.length) (rb : ∀ (i : Nat) x c, b.list[i]? = some x → xb[i]? = some c → RJ n T H x c) (skb : Sl T H 1 kb (strs b.keys))
    (sa : WfJ (n + 1) a) (sb : WfJ (n + 1) b) (e1 : a.kind = b.kind) (e2 : a.list.length = b.list.length) :
    ∃ x e' G, dCode Tryd.prog hookD c12.l0 e H = some (x, e', H ++ G) ∧ (match sameAt (sameN n) a b i with
      | true => x = .normal ∧ e' 2 = .ptr pa 0 ∧ e' 3 = .ptr pb 0 ∧ e' 5 = .int .i64 ((i + 1 : Nat) : Int)
      | false => x = .ret ∧ e' 4 = .bool false) := by
  obtain ⟨x, hx⟩ : ∃ x, a.list[i]? = some x := ⟨_, List.getElem?_eq_getElem hi⟩
  obtain ⟨c, hc⟩ : ∃ c, xa[i]? = some c := ⟨_, List.getElem?_eq_getElem (by omega)⟩
  have rx := ra i x c hx hc
  obtain ⟨b1, o1, ha1, hl1, _⟩ := sla.at hc
  have hcl := sla.elems c (List.mem_of_getElem? hc)
  have hlt1 := lt_of_get hpa
  have hlt2 := lt_of_get hpb
  have hw : IntKind.i64.wrap ((i : Int) + 1) = ((i + 1 : Nat) : Int) := by
    have := sa.1
    rw [IntKind.wrap_i64]; omega
  have hl0 := hl1
  rw [ld_eq] at hl0
  have lka := fun h => ska.len (h := h)
  have lla := fun h => sla.len (h := h)
  simp only [strs_len] at lka
  have hct : c.take 6 = c := List.take_of_length_le (Nat.le_of_eq hcl)
  by_cases h7 : a.kind = 7
  · have hkl : i < a.keys.length := by rw [sa.2.2.1 h7]; exact hi
    obtain ⟨k, hk⟩ : ∃ k, a.keys[i]? = some k := ⟨_, List.getElem?_eq_getElem hkl⟩
    obtain ⟨b3, o3, ha3, hl4, _⟩ := ska.at (strs_at hk)
    rw [ld_eq] at hl4
    have hbk : b.kind = 7 := e1 ▸ h7
    let B : Blk := { cells := [.int .i64 b.kind, .int .i64 b.num, .str b.text, lb, kb, .int .i64 b.pos], st := .live }
    have hix := key_run (s := k) skb slb (by rw [hlb, sb.2.2.1 hbk]) (by have := sb.2.1; omega)
    have ga : ∀ l, (H ++ l)[pa]? = some { cells := [.int .i64 a.kind, .int .i64 a.num, .str a.text, la, ka, .int .i64 a.pos], st := .live } := fun l => get_push hpa
    have gb : ∀ l, (H ++ l)[pb]? = some { cells := [.int .i64 b.kind, .int .i64 b.num, .str b.text, lb, kb, .int .i64 b.pos], st := .live } := fun l => get_push hpb
    have hl6 : ∀ l, ldB (H ++ l)[b1]? o1 6 = some c := fun l => by rw [← ld_eq]; exact ld_app hl1
    simp only [sameAt, pickJ, hx, hk]
    cases hf : b.keys.findIdx? (fun x => decide (x = k)) with
    | none =>
      rw [hf] at hix
      simp only [Option.bind_none]
      have key : ∃ e', dCode Tryd.prog hookD c12.l0 e H = some (.ret, e', H ++ [B]) ∧ e' 4 = .bool false := by simp [c12.l0, h2, h3, h5, hi, ha1, hl0, hpa, hct, lka, hpb, lla, hla, h7, hkl, ha3, hl4, hix, optI, B]
      obtain ⟨e', k1, k2⟩ := key
      exact ⟨.ret, e', [B], k1, by rfl, k2⟩
    | some q =>
      rw [hf] at hix
      simp only [Option.bind_some]
      have hq : q < b.list.length := by
        rw [← sb.2.2.1 hbk]
        exact (List.findIdx?_eq_some_iff_findIdx_eq.1 hf).1
      obtain ⟨y, hy⟩ : ∃ y, b.list[q]? = some y := ⟨_, List.getElem?_eq_getElem hq⟩
      simp only [hy]
      obtain ⟨d, hd⟩ : ∃ d, xb[q]? = some d := ⟨_, List.getElem?_eq_getElem (by omega)⟩
      have ry := rb q y d hy hd
      obtain ⟨b2, o2, ha2, hl2', _⟩ := slb.at hd
      have hl2 : ∀ l, ldB (H ++ l)[b2]? o2 6 = some d := fun l => by rw [← ld_eq]; exact ld_app hl2'
      have hdt : d.take 6 = d := List.take_of_length_le (Nat.le_of_eq (slb.elems d (List.mem_of_getElem? hd)))
      obtain ⟨G, hcall⟩ := ih S T (H ++ [B]) x y c d rx.app ry.app (sa.2.2.2.2.2 x (List.mem_of_getElem? hx)) (sb.2.2.2.2.2 y (List.mem_of_getElem? hy))
      have hnn : ¬ (q : Int) < 0 := by omega
      simp only [B] at hcall
      cases hr : sameN n x y with
      | true =>
        rw [hr] at hcall
        have key : ∃ e', dCode Tryd.prog hookD c12.l0 e H = some (.normal, e', H ++ ([B] ++ G)) ∧ e' 2 = .ptr pa 0 ∧ e' 3 = .ptr pb 0 ∧ e' 5 = .int .i64 ((i + 1 : Nat) : Int) := by simp [c12.l0, h2, h3, h5, hi, ha1, hl0, hpa, hct, lka, hpb, lla, hla, hnn, ha2, hl2, hcall, hw, h7, hkl, ha3, hl4, hix, optI, ga, gb, hl6, B, hdt]
        obtain ⟨e', k1, k2⟩ := key
        exact ⟨.normal, e', [B] ++ G, k1, by simp only [hr]; exact ⟨trivial, k2⟩⟩
      | false =>
        rw [hr] at hcall
        have key : ∃ e', dCode Tryd.prog hookD c12.l0 e H = some (.ret, e', H ++ ([B] ++ G)) ∧ e' 4 = .bool false := by simp [c12.l0, h2, h3, h5, hi, ha1, hl0, hpa, hct, lka, hpb, lla, hla, hnn, ha2, hl2, hcall, h7, hkl, ha3, hl4, hix, optI, ga, gb, hl6, B, hdt]
        obtain ⟨e', k1, k2⟩ := key
        exact ⟨.ret, e', [B] ++ G, k1, by simp only [hr]; exact ⟨trivial, k2⟩⟩
  · have hkn := sa.2.2.2.1 h7
    have hk : a.keys[i]? = none := by rw [hkn]; rfl
    have hib : i < b.list.length := by omega
    obtain ⟨y, hy⟩ : ∃ y, b.list[i]? = some y := ⟨_, List.getElem?_eq_getElem hib⟩
    simp only [sameAt, pickJ, hx, hk, Option.bind_some, hy]
    obtain ⟨d, hd⟩ : ∃ d, xb[i]? = some d := ⟨_, List.getElem?_eq_getElem (by omega)⟩
    have ry := rb i y d hy hd
    obtain ⟨b2, o2, ha2, hl2, _⟩ := (slb).at hd
    rw [ld_eq] at hl2
    have hdt : d.take 6 = d := List.take_of_length_le (Nat.le_of_eq (slb.elems d (List.mem_of_getElem? hd)))
    obtain ⟨G, hcall⟩ := ih S T H x y c d rx ry (sa.2.2.2.2.2 x (List.mem_of_getElem? hx)) (sb.2.2.2.2.2 y (List.mem_of_getElem? hy))
    have hnn : ¬ (i : Int) < 0 := by omega
    cases hr : sameN n x y with
    | true =>
      rw [hr] at hcall
      have key : ∃ e', dCode Tryd.prog hookD c12.l0 e H = some (.normal, e', H ++ ([] ++ G)) ∧ e' 2 = .ptr pa 0 ∧ e' 3 = .ptr pb 0 ∧ e' 5 = .int .i64 ((i + 1 : Nat) : Int) := by simp [c12.l0, h2, h3, h5, hi, ha1, hl0, hpa, hct, lka, hpb, lla, hla, hnn, ha2, hl2, hcall, hw, h7, hdt]
      obtain ⟨e', k1, k2⟩ := key
      exact ⟨.normal, e', [] ++ G, k1, by simp only [hr]; exact ⟨trivial, k2⟩⟩
    | false =>
      rw [hr] at hcall
      have key : ∃ e', dCode Tryd.prog hookD c12.l0 e H = some (.ret, e', H ++ ([] ++ G)) ∧ e' 4 = .bool false := by simp [c12.l0, h2, h3, h5, hi, ha1, hl0, hpa, hct, lka, hpb, lla, hla, hnn, ha2, hl2, hcall, h7, hdt]
      obtain ⟨e', k1, k2⟩ := key
      exact ⟨.ret, e', [] ++ G, k1, by simp only [hr]; exact ⟨trivial, k2⟩⟩

theorem loop12 {n : Nat} (ih : SameOK 12 WfJ n) {S T : Nat → Prop} {a b : J} {pa pb : Nat} {la ka lb kb : CV} {xa xb : List (List CV)} (hla : xa.length = a.list.length) (hlb : xb.length = b.list.length) (sa : WfJ (n + 1) a) (sb : WfJ (n + 1) b) (q1 : a.kind = b.kind) (q2 : a.list.length = b.list.length) : ∀ (m i : Nat) (e : Env) (H : Heap), i + m = a.list.length →
    e 2 = .ptr pa 0 → e 3 = .ptr pb 0 → e 5 = .int .i64 i →
    H[pa]? = some { cells := [.int .i64 a.kind, .int .i64 a.num, .str a.text, la, ka, .int .i64 a.pos], st := .live } → H[pb]? = some { cells := [.int .i64 b.kind, .int .i64 b.num, .str b.text, lb, kb, .int .i64 b.pos], st := .live } →
    Sl S H 6 la xa → (∀ (i : Nat) x c, a.list[i]? = some x → xa[i]? = some c → RJ n S H x c) → Sl S H 1 ka (strs a.keys) →
    Sl T H 6 lb xb → (∀ (i : Nat) x c, b.list[i]? = some x → xb[i]? = some c → RJ n T H x c) → Sl T H 1 kb (strs b.keys) →
    ∃ x e' G, dCode Tryd.prog hookD (.loop c12.l0) e H = some (x, e', H ++ G) ∧ (if sameFrom n a b i = true then x = .exit 0 else x = .ret ∧ e' 4 = .bool false) := by
  intro m
  induction m with
  | zero =>
    intro i e H hi h2 h3 h5 hpa _ sla _ _ _ _ _
    obtain ⟨e', k⟩ := round12_end h2 h5 hpa sla (by omega)
    exact ⟨.exit 0, e', [], by rw [loop_step, k, next_exit]; simp, by rw [if_pos (sameFrom_end (by omega))]⟩
  | succ m ihm =>
    intro i e H hi h2 h3 h5 hpa hpb sla ra ska slb rb skb
    obtain ⟨x, e1, G, k, hr⟩ := round12 ih h2 h3 h5 (by omega) hpa hpb sla hla ra ska slb hlb rb skb sa sb q1 q2
    rw [sameFrom_step (by omega : i < a.list.length)]
    split at hr
    · rename_i hv
      obtain ⟨rfl, a1, a2, a5⟩ := hr
      obtain ⟨x2, e2, G2, k2, hr2⟩ := ihm (i + 1) e1 (H ++ G) (by omega) a1 a2 a5 (get_push hpa) (get_push hpb) sla.app (fun i x c h1 h2 => (ra i x c h1 h2).app) ska.app slb.app (fun i x c h1 h2 => (rb i x c h1 h2).app) skb.app
      refine ⟨x2, e2, G ++ G2, by rw [loop_step, k, next_normal, k2, List.append_assoc], ?_⟩
      rw [hv, Bool.true_and]
      exact hr2
    · rename_i hv
      obtain ⟨rfl, a1⟩ := hr
      refine ⟨.ret, e1, G, by rw [loop_step, k, next_ret], ?_⟩
      rw [hv, Bool.false_and, if_neg (by simp)]
      exact ⟨rfl, a1⟩

theorem tail12 {n : Nat} (ih : SameOK 12 WfJ n) {S T : Nat → Prop} {a b : J} {pa pb : Nat} {la ka lb kb : CV} {xa xb : List (List CV)} {e : Env} {H : Heap} (hla : xa.length = a.list.length) (hlb : xb.length = b.list.length) (sa : WfJ (n + 1) a) (sb : WfJ (n + 1) b) (q1 : a.kind = b.kind) (q2 : a.list.length = b.list.length)
    (h2 : e 2 = .ptr pa 0) (h3 : e 3 = .ptr pb 0)
    (hpa : H[pa]? = some { cells := [.int .i64 a.kind, .int .i64 a.num, .str a.text, la, ka, .int .i64 a.pos], st := .live }) (hpb : H[pb]? = some { cells := [.int .i64 b.kind, .int .i64 b.num, .str b.text, lb, kb, .int .i64 b.pos], st := .live })
    (sla : Sl S H 6 la xa) (ra : ∀ (i : Nat) x c, a.list[i]? = some x → xa[i]? = some c → RJ n S H x c) (ska : Sl S H 1 ka (strs a.keys))
    (slb : Sl T H 6 lb xb) (rb : ∀ (i : Nat) x c, b.list[i]? = some x → xb[i]? = some c → RJ n T H x c) (skb : Sl T H 1 kb (strs b.keys)) :
    ∃ G, fin [(4, none)] (dCode Tryd.prog hookD c12.s0 e H) = some (.bool (sameFrom n a b 0), H ++ G) := by
  obtain ⟨x, e', G, k, hr⟩ := loop12 ih hla hlb sa sb q1 q2 a.list.length 0 (e.put (some 5) (.int .i64 0)) H (by omega) (by simp [h2]) (by simp [h3]) (by simp) hpa hpb sla ra ska slb rb skb
  refine ⟨G, ?_⟩
  split at hr
  · rename_i hv
    subst hr
    simp [c12.s0, k, hv]
  · rename_i hv
    obtain ⟨rfl, h4⟩ := hr
    simp [c12.s0, k, hv, h4]

theorem same12 : ∀ n, SameOK 12 WfJ n := by
  intro n
  induction n with
  | zero => intro S T H a b ca cb ha; exact ha.elim
  | succ n ih =>
    rintro S T H a b ca cb ⟨la, ka, xa, rfl, sla, hla, ra, ska⟩ ⟨lb, kb, xb, rfl, slb, hlb, rb, skb⟩ sa sb
    let A : Blk := { cells := [.int .i64 a.kind, .int .i64 a.num, .str a.text, la, ka, .int .i64 a.pos], st := .live }
    let B : Blk := { cells := [.int .i64 b.kind, .int .i64 b.num, .str b.text, lb, kb, .int .i64 b.pos], st := .live }
    have lla := fun h => sla.len (h := h)
    have llb := fun h => slb.len (h := h)
    have lka := fun h => ska.len (h := h)
    have lkb := fun h => skb.len (h := h)
    simp only [strs_len] at lka lkb
    rw [den_of (hdN (by decide) _ _) k12 (by simp [c12])]
    rw [sameN_succ]
    by_cases h1 : a.kind = b.kind
    · by_cases h2 : a.num = b.num
      · by_cases h3 : a.text = b.text
        · by_cases h4 : a.list.length = b.list.length
          · have h4I : (a.list.length : Int) = b.list.length := by omega
            by_cases h5 : a.keys.length = b.keys.length
            · have h5I : (a.keys.length : Int) = b.keys.length := by omega
              simp [c12, c12.body, hla, hlb, lla, llb, lka, lkb, h1, h2, h3, h4I, h5I, h4, h5]
              refine ex_app (L := _) (tail12 (pa := H.length) (pb := H.length + 1) ih hla hlb sa sb h1 h4 ?_ ?_ ?_ ?_ sla.app (fun i x c p q => (ra i x c p q).app) ska.app slb.app (fun i x c p q => (rb i x c p q).app) skb.app)
              · simp
              · simp
              · simp [h1, h2, h3]
              · simp
            · refine ⟨[A, B], ?_⟩
              have h5I : ¬ (a.keys.length : Int) = b.keys.length := by omega
              simp [c12, c12.body, hla, hlb, lla, llb, lka, lkb, h1, h2, h3, h4I, h5, h5I, A, B]
          · refine ⟨[A, B], ?_⟩
            have h4I : ¬ (a.list.length : Int) = b.list.length := by omega
            simp [c12, c12.body, hla, hlb, lla, llb, lka, lkb, h1, h2, h3, h4, h4I, A, B]
        · refine ⟨[A, B], ?_⟩
          simp [c12, c12.body, hla, hlb, lla, llb, lka, lkb, h1, h2, h3, A, B]
      · refine ⟨[A, B], ?_⟩
        simp [c12, c12.body, hla, hlb, lla, llb, lka, lkb, h1, h2, A, B]
    · refine ⟨[A, B], ?_⟩
      simp [c12, c12.body, hla, hlb, lla, llb, lka, lkb, h1, A, B]

end Go.Cn.D
