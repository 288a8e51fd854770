/- Of the signs of a text those that read as names are names; and what reading a term may have as its fault. -/
import Derived.Test.YtefcdpkficojgaaDoorRsNew
namespace Go.Proofs.YtefcdpkficojgaaDoor
open Go.RowKit
set_option linter.unusedVariables false

theorem sgs_ok (s : ByteArray) : SgsOk (lexR s).1 := by
  intro g hg hn
  have hgood : Good s g := by
    by_cases h : 6000 < s.size
    · rw [lexR_long h] at hg; simp at hg
    · rw [lexR_short h] at hg
      exact lexS_good s _ 0 [] (Nat.le_refl _) (fun x hx => by simp at hx) g hg
  unfold isNameL at hn
  rw [Bool.and_eq_true] at hn
  rcases hgood.tok with ⟨hk, _⟩ | ⟨_, c, r, hx, hs, _⟩ | ⟨_, hm⟩
  · exact hk
  · have := word_head g.t.data.toList c (by rw [hx]; rfl) hs
    rw [this] at hn; simp at hn
  · exfalso
    rcases mark_cases hm with e | e | ⟨c, e, _, hs, _⟩
    · have := word_head g.t.data.toList 61 (by rw [e]; rfl) (by decide)
      rw [this] at hn; simp at hn
    · have := word_head g.t.data.toList 61 (by rw [e]; rfl) (by decide)
      rw [this] at hn; simp at hn
    · have := word_head g.t.data.toList c (by rw [e]; rfl) hs
      rw [this] at hn; simp at hn
/-- a row of terms, owned from the first block on: what older blocks have become does no harm -/
theorem own_move {w0 w w' : World} {e : TypeId} {sz n c g : Nat} {xs : List Value} (h : Own w0 w e sz (.slice (some ⟨g, 0, none⟩) n c) n xs) (hb : w'.heap[g]? = w.heap[g]?) : Own { w' with heap := #[] } w' e sz (.slice (some ⟨g, 0, none⟩) n c) n xs := by
  refine ⟨⟨h.1.1, ?_⟩, ⟨rfl, rfl, rfl, Nat.zero_le _, fun k hk => absurd hk (Nat.not_lt_zero _)⟩⟩
  rcases h.1.2 with ⟨hv, h0⟩ | ⟨g', cap, cur, hv, hg, hh, h1⟩
  · exact .inl ⟨hv, h0⟩
  · injection hv with e1 e2 e3
    injection e1 with e1
    injection e1 with e1 _ _
    subst e1 e3
    exact .inr ⟨g, c, cur, rfl, Nat.zero_le _, hb.trans hh, h1⟩
theorem TmRowO.twoR {W : World} {F G G' : Nat → Prop} {row : Nat} {cur : Array Value} {e : TypeId} {t t' : Tm} {k m : Int} {s : ByteArray} {A : Option Addr} {l c : Nat} {k' m' : Int} {s' : ByteArray} {A' : Option Addr} {l' c' : Nat}
    (hT : TmO W G [.int .i64 k, .int .i64 m, .string s, .slice A l c] t) (hT' : TmO W G' [.int .i64 k', .int .i64 m', .string s', .slice A' l' c'] t')
    (rd : Rd W 4 (some ⟨row, 0, none⟩) 2 [.int .i64 k, .int .i64 m, .string s, .slice A l c, .int .i64 k', .int .i64 m', .string s', .slice A' l' c']) (hr : W.heap[row]? = some (.cells cur e (0, 0))) (hF : F row) (hGF : ∀ b, G b → F b) (hGF' : ∀ b, G' b → F b) (hn : ¬ G row) (hn' : ¬ G' row) (hd : ∀ b, G b → G' b → False) :
    TmRowO W F (some ⟨row, 0, none⟩) [t, t'] := by
  refine ⟨[.int .i64 k, .int .i64 m, .string s, .slice A l c, .int .i64 k', .int .i64 m', .string s', .slice A' l' c'], fun i => if i = 0 then G else G', ⟨rd, fun _ => ⟨row, 0, _, _, rfl, hF, hr, fun i _ => ?_⟩, fun i b _ hb => ?_, fun i j b hi hj hne h1 h2 => ?_⟩, fun i hi => ?_⟩
  · dsimp only
    split
    · exact hn
    · exact hn'
  · dsimp only at hb
    split at hb
    · exact hGF b hb
    · exact hGF' b hb
  · dsimp only at h1 h2
    simp only [List.length_cons, List.length_nil] at hi hj
    split at h1
    · rw [if_neg (by omega)] at h2
      exact hd b h1 h2
    · rw [if_pos (by omega)] at h2
      exact hd b h2 h1
  · have hi2 : i = 0 ∨ i = 1 := by simp at hi; omega
    rcases hi2 with rfl | rfl
    · exact hT
    · exact hT'
end Go.Proofs.YtefcdpkficojgaaDoor
