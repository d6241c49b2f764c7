/- The seat's tables, out of a row's condition. -/
import Derived.Test.YtlmlpgmpdaepkaaDoorCnShell
import Derived.Test.YtlmlpgmpdaepkaaDoorCdHook
import Derived.Test.YtlmlpgmpdaepkaaDoorRows
import Derived.PinnedBridge
set_option linter.unusedSimpArgs false
set_option linter.unusedVariables false
set_option linter.unusedSectionVars false
namespace Go.Cn.D
open Go.Proofs Go.Proofs.YtlmlpgmpdaepkaaDoor
set_option maxRecDepth 100000

theorem g10 : Tryd.prog.globalNamed "internal/strconv.uint64pow10" = some 2 := by kernel_rfl
theorem e10 : (Rows.laid_internal_strconv_uint64pow10 : DataW Unit) = Lib.tabData .u64 Lib.pow10Tab := by kernel_rfl
theorem eAcc : (Rows.laid_unicode_utf8_acceptRanges : DataW Unit) = Lib.acceptData := by kernel_rfl
theorem eFirst : Rows.laid_unicode_utf8_first = Lib.firstData := Pinned.utf8First_eq
theorem xU8 : U8Extra Tryd.prog Tryd.lays260_ren := ⟨by kernel_rfl, by kernel_rfl, by kernel_rfl, by kernel_rfl, by kernel_rfl, by kernel_rfl, by kernel_rfl⟩

theorem tab10 {W : World} (h : Lib.VarReads Tryd.prog W "internal/strconv.uint64pow10" Rows.laid_internal_strconv_uint64pow10) : Lib.TabIs Tryd.prog W "internal/strconv.uint64pow10" .u64 Lib.pow10Tab := by
  rw [e10] at h
  obtain ⟨g, t, cs, fuel, p, hg, hty, hvar, hd⟩ := h
  obtain rfl := Option.some.inj (g10.symm.trans hg)
  obtain rfl := Option.some.inj ((show (Tryd.prog.globals[2]?).map (·.type) = some 120 by kernel_rfl).symm.trans hty)
  unfold Lib.TabIs
  rw [hvar, ← Lib.cells_of_tab Tryd.underlying120 Tryd.underlying97 (by kernel_rfl) (by kernel_rfl) hd]

theorem tabs {W : World} {l : List (String × DataW Unit)} (h : laidMet Tryd.prog l W) (h1 : ("internal/strconv.uint64pow10", Rows.laid_internal_strconv_uint64pow10) ∈ l) (h2 : ("unicode/utf8.first", Rows.laid_unicode_utf8_first) ∈ l) (h3 : ("unicode/utf8.acceptRanges", Rows.laid_unicode_utf8_acceptRanges) ∈ l) :
    Lib.TabIs Tryd.prog W "internal/strconv.uint64pow10" .u64 Lib.pow10Tab ∧ Lib.Utf8Tabs 0 1 W := by
  refine ⟨tab10 (Lib.laidMet.reads h h1), utf8Tabs_of_reads Tryd.lays260 xU8 ?_ ?_⟩
  · have := Lib.laidMet.reads h h2; rw [eFirst] at this; exact this
  · have := Lib.laidMet.reads h h3; rw [eAcc] at this; exact this

theorem hookOK {W : World} (h10 : Lib.TabIs Tryd.prog W "internal/strconv.uint64pow10" .u64 Lib.pow10Tab) (hU : Lib.Utf8Tabs 0 1 W) : HookOK (Kept W [0, 1, 2]) Tryd.prog hookD :=
  hookD_ok (fun μ K w hS => kept_tab hS.held g10 (by decide) h10) (fun μ K w hS => kept_utf8 hS.held (by decide) (by decide) hU)
end Go.Cn.D
namespace Go.Cn.D
open Go.Proofs
theorem row_cells {W : World} (h : Lib.TabIs Tryd.prog W "internal/strconv.uint64pow10" .u64 Lib.pow10Tab) : ∃ (r : Nat) (arr : Array Value) (el : TypeId) (fr : Nat × Nat), W.heap[r]? = some (.cells arr el fr) := by
  unfold Lib.TabIs World.var? at h
  rw [g10] at h
  simp only [Option.bind_some] at h
  split at h
  · rename_i cs el fr hq
    exact ⟨2, cs, el, fr, hq⟩
  · simp at h
end Go.Cn.D
