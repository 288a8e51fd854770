/- Several texts in one: ReadsLaw, NamesIn. -/
import Derived.Test.YtdanlgmpgdipnaaDoorKd31
import Derived.Test.YtdanlgmpgdipnaaDoorKd7
import Derived.Test.YtdanlgmpgdipnaaDoorKd34
import Derived.Test.YtdanlgmpgdipnaaDoorKd33
import Derived.Test.YtdanlgmpgdipnaaDoorKd13
namespace Go.Proofs.YtdanlgmpgdipnaaDoor
open Go.RowKit
set_option linter.unusedVariables false


theorem OwnStrs.nil {w0 w : World} (h : Below w0.heap.size w0 w) : OwnStrs w0 w (.slice none 0 0) [] := Own.startB h _ _
theorem OwnStrs.empty {w0 w : World} (h : Below w0.heap.size w0 w) : OwnStrs w0 (w.alloc (.cells #[] 9)) (.slice (some ⟨w.heap.size, 0, none⟩) 0 0) [] := Own.lit h _ 1 0 #[] (by simp [maxLen]) rfl
theorem OwnStrs.base {w0 w1 w : World} {v : Value} {ss : List ByteArray} (h : OwnStrs w1 w v ss) (hb : Below w0.heap.size w0 w1) : OwnStrs w0 w v ss := by
  refine ⟨⟨h.1.1, ?_⟩, hb.trans (h.2.mono hb.size)⟩
  rcases h.1.2 with h' | ⟨g, cap, cur, e, hg, r⟩
  · exact .inl h'
  · exact .inr ⟨g, cap, cur, e, Nat.le_trans hb.size hg, r⟩
theorem OwnStrs.keepS {w0 w w' : World} {v : Value} {ss : List ByteArray} {S : Nat → Prop} (h : OwnStrs w0 w v ss) (hk : Keep S w w') (hv : ∀ b, v.ownBlock = some b → S b) (hs : ∀ b, b < w0.heap.size → S b) : OwnStrs w0 w' v ss := by
  refine ⟨⟨h.1.1, ?_⟩, h.2.trans (hk.below h.2.size hs)⟩
  rcases h.1.2 with h' | ⟨g, cap, cur, rfl, hg, hh, r⟩
  · exact .inl h'
  · exact .inr ⟨g, cap, cur, rfl, hg, (hk.block g (lt_of_block hh) (hv g rfl)).trans hh, r⟩

end Go.Proofs.YtdanlgmpgdipnaaDoor
