/- The rules of the walk, marked for simp; frames. -/
import Derived.Test.YtlmlpgmpdaepkaaDoorCnClosed
set_option linter.unusedSimpArgs false
set_option linter.unusedVariables false
set_option linter.unusedSectionVars false
namespace Go.Cn

attribute [simp] dCode_ret dCode_skip dCode_exit seq_eq ops_eq dOps_plain dOps_g dOps_nil block_eq cond_eq cond_bool ev_t ev_k put_some put_none init_at step_some opsEnd_some then_normal then_ret then_exit blk_normal blk_ret blk_exit fin_ret fin_normal isB_bool isB_undef
  dOp_call dOp_dcall x_mv x_pick x_alloc x_box x_load x_loada x_store x_bin x_un x_eqn x_eqb x_eqa x_nilck x_build x_lit x_toint x_tobytes x_bstr x_rstr x_sstr x_istr x_mkif x_mark x_mkfn x_make x_faddr x_fld1 x_fldn x_iaddr x_idx x_ext x_slen x_len x_app x_min2 x_max2 x_slice x_sslice x_range x_next
  rBool_eq rPtr_eq rInt_eq rStr_eq rAgg_eq rTup_eq one1_eq many_eq stored_eq val1_eq valB_eq litOf_eq iaddrOf_eq lenOf_slc lenOf_nils
  CV.ok CV.cells CV.one resVal resOf cbin cun isNil

/-- nothing has turned but S, and new blocks -/
def Fr (S : Nat → Prop) (H H' : Heap) : Prop := H.length ≤ H'.length ∧ ∀ c, c < H.length → ¬ S c → H'[c]? = H[c]?

theorem Fr.refl (S : Nat → Prop) (H : Heap) : Fr S H H := ⟨Nat.le_refl _, fun _ _ _ => rfl⟩
theorem Fr.mono {S T : Nat → Prop} {H H' : Heap} (h : Fr S H H') (hST : ∀ c, c < H.length → S c → T c) : Fr T H H' := ⟨h.1, fun c hc hn => h.2 c hc fun hs => hn (hST c hc hs)⟩
theorem Fr.trans {S T : Nat → Prop} {H H1 H2 : Heap} (h : Fr S H H1) (k : Fr T H1 H2) (hST : ∀ c, c < H.length → T c → S c) : Fr S H H2 :=
  ⟨Nat.le_trans h.1 k.1, fun c hc hn => by rw [k.2 c (Nat.lt_of_lt_of_le hc h.1) fun ht => hn (hST c hc ht), h.2 c hc hn]⟩
theorem Fr.push {S : Nat → Prop} {H : Heap} (l : Heap) : Fr S H (H ++ l) := ⟨by simp, fun c hc _ => List.getElem?_append_left hc⟩
theorem Fr.set {S : Nat → Prop} {H : Heap} {b : Nat} {blk : Blk} (hb : S b) : Fr S H (H.set b blk) := ⟨by simp, fun c _ hn => List.getElem?_set_ne (fun (e : b = c) => hn (e ▸ hb))⟩

theorem lt_of_get {H : Heap} {b : Nat} {blk : Blk} (h : H[b]? = some blk) : b < H.length := (List.getElem?_eq_some_iff.1 h).1
theorem get_push {H l : Heap} {b : Nat} {blk : Blk} (h : H[b]? = some blk) : (H ++ l)[b]? = some blk := by rw [List.getElem?_append_left (lt_of_get h)]; exact h
theorem get_new {H : Heap} {blk : Blk} : (H ++ [blk])[H.length]? = some blk := by simp
theorem ld_of {H : Heap} {b off n : Nat} {blk : Blk} (h : H[b]? = some blk) (hs : blk.st = .live ∨ blk.st = .ro) (hn : off + n ≤ blk.cells.length) : H.ld b off n = some ((blk.cells.drop off).take n) := by
  unfold Heap.ld; rw [h]; simp only; rw [if_pos ⟨hs, hn⟩]
theorem stc_of {H : Heap} {b off : Nat} {cs : List CV} {blk : Blk} (h : H[b]? = some blk) (hs : blk.st = .live) (hn : off + cs.length ≤ blk.cells.length) : H.stc b off cs = some (H.set b { blk with cells := splice blk.cells off cs }) := by
  unfold Heap.stc; rw [h]; simp only; rw [if_pos ⟨hs, hn⟩]
theorem kill_of {H : Heap} {b : Nat} {blk : Blk} (h : H[b]? = some blk) (hs : blk.st = .live) : H.kill b = some (H.set b { blk with st := .dead }) := by
  unfold Heap.kill; rw [h]; simp only; rw [if_pos hs]

theorem set_same {H : Heap} {b : Nat} {blk : Blk} (h : H[b]? = some blk) : H.set b blk = H := by
  refine List.ext_getElem? fun i => ?_
  by_cases hi : b = i
  · subst hi; rw [List.getElem?_set_self (lt_of_get h), h]
  · rw [List.getElem?_set_ne hi]

end Go.Cn
