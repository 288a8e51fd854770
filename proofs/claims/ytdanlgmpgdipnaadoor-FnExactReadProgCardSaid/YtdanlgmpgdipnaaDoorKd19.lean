/- Several texts in one: RdTop. -/
import Derived.Test.YtdanlgmpgdipnaaDoorKd18
namespace Go.Proofs.YtdanlgmpgdipnaaDoor
open Go.RowKit
set_option linter.unusedVariables false


theorem lexS_small (s : ByteArray) (n : Nat) : ∀ i acc, s.size - i ≤ n → (∃ p : Nat, (lexS s i acc).2.2 = (p : Int)) ∧ ((lexS s i acc).2.1 = 0 → (lexS s i acc).2.2 = 0 ∧ (lexS s i acc).1.length ≤ acc.length + (s.size - i)) := by
  induction n with
  | zero => intro i acc h; rw [lexS_end (by omega)]; exact ⟨⟨0, rfl⟩, fun _ => ⟨rfl, by show acc.length ≤ _; omega⟩⟩
  | succ n ih =>
    intro i acc h
    by_cases h1 : i < s.size
    · cases hb : blankB s[i] with
      | true =>
        rw [lexS_blank h1 hb]
        obtain ⟨h2, h3⟩ := ih (i + 1) acc (by omega)
        exact ⟨h2, fun h4 => ⟨(h3 h4).1, by have := (h3 h4).2; omega⟩⟩
      | false =>
        cases ho : (signP s i h1).2.2 with
        | true =>
          rw [lexS_sign h1 hb ho]
          have hbd := signP_bd s i h1
          obtain ⟨h2, h3⟩ := ih (signP s i h1).2.1 (acc ++ [⟨(signP s i h1).1, s.extract i (signP s i h1).2.1, i⟩]) (by omega)
          refine ⟨h2, fun h4 => ⟨(h3 h4).1, ?_⟩⟩
          have := (h3 h4).2
          rw [List.length_append, List.length_cons, List.length_nil] at this
          omega
        | false => rw [lexS_bad h1 hb ho]; exact ⟨⟨i, rfl⟩, fun h4 => by simp at h4⟩
    · rw [lexS_end h1]; exact ⟨⟨0, rfl⟩, fun _ => ⟨rfl, by show acc.length ≤ _; omega⟩⟩
theorem lexR_pos (s : ByteArray) : ∃ p : Nat, (lexR s).2.2 = (p : Int) := by
  by_cases h : 6000 < s.size
  · rw [lexR_long h]; exact ⟨0, rfl⟩
  · rw [lexR_short h]; exact (lexS_small s _ 0 [] (Nat.le_refl _)).1
theorem lexR_ok {s : ByteArray} (h : (lexR s).2.1 = 0) : s.size ≤ 6000 ∧ (lexR s).2.2 = 0 ∧ (lexR s).1.length ≤ 6000 := by
  by_cases hs : 6000 < s.size
  · rw [lexR_long hs] at h; simp at h
  · rw [lexR_short hs] at h ⊢
    obtain ⟨h1, h2⟩ := (lexS_small s _ 0 [] (Nat.le_refl _)).2 h
    exact ⟨by omega, h1, by simp at h2; omega⟩
set_option maxHeartbeats 800000 in
set_option maxRecDepth 100000 in
theorem impl_newReader (s : ByteArray) (w : World) (tab : TabW w) :
    Calls Tryd.prog 17 #[.string s] w fun e w' => ∃ rb A c, e = .returned (.pointer (some ⟨rb, 0, none⟩)) ∧ w.heap.size ≤ rb ∧ Below w.heap.size w w' ∧ w'.heap[rb]? = some (.cells #[.slice A (lexR s).1.length c, .int .i64 (s.size : Int), .int .i64 0, .int .i64 (lexR s).2.1, .int .i64 (lexR s).2.2] 51 (0, 0)) ∧ Rd w' 3 A (lexR s).1.length ((lexR s).1.flatMap sgF) ∧ (∀ b o, A = some ⟨b, o, none⟩ → b < rb) ∧ (lexR s).1.length ≤ c := by
  have TB := Lib.hid tab
  clear tab
  go_enter Tryd.func17, Tryd.ntmps17
  go_wp2_with fail
  refine (impl_Lex s _ TB.out).mono ?_
  rintro e w1 ⟨v, rfl, own⟩
  obtain ⟨A, c, rfl, hc⟩ := Own.slice own
  have OW := Lib.hid own
  have hlt := fun g hg => (own.1.lt g hg).2
  have HLT : Hid (∀ b o, A = some ⟨b, o, none⟩ → b < w1.heap.size) := Lib.hid (fun b o e => by
    subst e
    exact hlt b rfl)
  clear own hlt
  obtain ⟨L, hL⟩ : ∃ L, (lexR s).1 = L := ⟨_, rfl⟩
  obtain ⟨fc, hfc⟩ : ∃ x, (lexR s).2.1 = x := ⟨_, rfl⟩
  obtain ⟨fp, hfp⟩ : ∃ x, (lexR s).2.2 = x := ⟨_, rfl⟩
  have HL := Lib.hid hL
  have HFC := Lib.hid hfc
  have HFP := Lib.hid hfp
  rw [hL] at OW hc ⊢
  rw [hfc, hfp]
  clear hL hfc hfp
  go_wp2_with fail
  go_ret
  rw [HL.out, HFC.out, HFP.out]
  refine ⟨_, A, c, rfl, ?_, ?_, ?_, ?_, ?_, hc⟩
  · have := OW.out.own.size; simp; omega
  · exact (OW.out.own.alloc OW.out.own.size _).alloc (by have := OW.out.own.size; simp; omega) _
  · have := heap_alloc_new (w1.alloc (.cells #[.int .i64 fc, .int .i64 fp] 27)) (.cells #[.slice A L.length c, .int .i64 (s.size : Int), .int .i64 0, .int .i64 fc, .int .i64 fp] 51)
    simpa using this
  · exact (Own.rd OW.out).below (Below.alloc (Below.alloc (Below.refl _ _) (Nat.le_refl _) _) (by simp) _)
  · intro b o e; have := HLT.out b o e; simp; omega
end Go.Proofs.YtdanlgmpgdipnaaDoor
