/- Several texts in one: LexSpec. -/
import Derived.Test.YtdanlgmpgdipnaaDoorKd11
import Derived.Test.YtdanlgmpgdipnaaDoorKd3
namespace Go.Proofs.YtdanlgmpgdipnaaDoor
open Go.RowKit
set_option linter.unusedVariables false


theorem setX {w0 w : World} {v : Value} {l : List Sg} {g k : Nat} (o : OutS w0 w v l) (hv : v.ownBlock ≠ some g) (hg : w0.heap.size ≤ g) (a : Value) : OutS w0 (w.setCell ⟨g, k, none⟩ a) v l :=
  ⟨ownsRow_setCell_other o.1 (a := ⟨g, k, none⟩) hv a, o.2.setCell hg _⟩
theorem str_eq_list2 (s : ByteArray) (l : List UInt8) : (s.toList == l) = decide (s = (⟨l.toArray⟩ : ByteArray)) := by
  rw [← str_eq, Lib.toList_data (⟨l.toArray⟩ : ByteArray)]
theorem OutS.empty1 {w0 w : World} {g : Nat} (hg : g = w.heap.size) (h : Below w0.heap.size w0 w) : OutS w0 (w.alloc (.cells #[] 62)) (.slice (some ⟨g, 0, none⟩) 0 0) [] := by
  subst hg
  exact OutS.empty h
set_option maxHeartbeats 3200000 in
set_option maxRecDepth 100000 in
theorem spec_Lex (s : ByteArray) (w : World) : Calls Tryd.prog 25 #[.string s] w (RetL w (lexR s)) := by
  by_cases hs : 6000 < s.size
  · have HR := Lib.hid (lexR_long hs)
    have hs' : (6000 : Int) < (s.size : Int) := by omega
    go_enter Tryd.func25, Tryd.ntmps25
    go_wp2_with fail
    refine bodyPost_ret (v := .tuple #[.slice (some ⟨w.heap.size + 1, 0, none⟩) 0 0, .agg #[.int .i64 1, .int .i64 0]]) (by simp [results, Tryd.results25, go_sem]) rfl ?_
    unfold RetL
    rw [HR.out]
    exact ⟨_, rfl, OutS.empty1 (by simp) (Below.alloc (Below.refl _ _) (Nat.le_refl _) _)⟩
  have hs' : ¬ (6000 : Int) < (s.size : Int) := by omega
  have HR0 := Lib.hid (lexR_short hs)
  go_enter Tryd.func25, Tryd.ntmps25
  go_wp2_with fail
  go_loopw [4, 5] (fun ov iv wr => ∃ j : Nat, j ≤ s.size ∧ iv = .int .i64 (j : Int) ∧ ∃ A' n c', ov = .slice A' n c' ∧ Hid (∃ acc : List Sg, acc.length = n ∧ n ≤ j ∧ OutS w wr (.slice A' n c') acc ∧ lexS s j acc = lexR s ∧ FltZ wr w.heap.size)) (fun _ iv _ => s.size - (intOf iv).toNat)
  case atStart => exact ⟨0, by omega, rfl, _, 0, 0, rfl, Lib.hid ⟨[], rfl, Nat.le_refl _, OutS.empty1 (by simp) (by repeat' (first | exact Below.refl _ _ | exact Nat.le_refl _ | (refine Below.alloc ?_ ?_ _) | (refine Below.setCell ?_ ?_ _) | (refine Below.drew ?_) | (refine below_drewN ?_ _) | assumption | (simp; done) | (simp; omega))), HR0.out.symm, FltZ.below (w := w.alloc (.cells #[.int .i64 0, .int .i64 0] 27)) (heap_alloc_new _ _) (by repeat' (first | exact Below.refl _ _ | exact Nat.le_refl _ | (refine Below.alloc ?_ ?_ _) | (refine Below.setCell ?_ ?_ _) | (refine Below.drew ?_) | (refine below_drewN ?_ _) | assumption | (simp; done) | (simp; omega)))⟩⟩
  case round =>
    obtain ⟨j, hj, rfl, A', n, c', rfl, HR⟩ := hrel
    obtain ⟨acc, hn, hnj, own, hlx, flt⟩ := HR.out
    have OW := Lib.hid own
    have HLX := Lib.hid hlx
    have FL := Lib.hid flt
    clear own hlx flt HR
    by_cases hlt : j < s.size
    · have h0j : (0 : Int) ≤ (j : Int) := by omega
      have h1j : (j : Int) < (s.size : Int) := by omega
      cases q1 : ((s[j].toNat : Int) == 32) with
      | true =>
        have HB := Lib.hid (lexS_blank (acc := acc) hlt (by rw [blank_of, q1]; rfl))
        have own := OW.out
        have flt := FL.out
        go_wp2_with fail
        go_roundw
        case rel => exact ⟨j + 1, by omega, by go_num, A', n, c', rfl, Lib.hid ⟨acc, hn, by omega, own, by rw [← HB.out]; exact HLX.out, flt⟩⟩
        case measure => simp [intOf]; omega
      | false =>
        cases q2 : ((s[j].toNat : Int) == 9) with
        | true =>
          have HB := Lib.hid (lexS_blank (acc := acc) hlt (by rw [blank_of, q1, q2]; rfl))
          have own := OW.out
          have flt := FL.out
          go_wp2_with fail
          go_roundw
          case rel => exact ⟨j + 1, by omega, by go_num, A', n, c', rfl, Lib.hid ⟨acc, hn, by omega, own, by rw [← HB.out]; exact HLX.out, flt⟩⟩
          case measure => simp [intOf]; omega
        | false =>
          cases q3 : ((s[j].toNat : Int) == 10) with
          | true =>
            have HB := Lib.hid (lexS_blank (acc := acc) hlt (by rw [blank_of, q1, q2, q3]; rfl))
            have own := OW.out
            have flt := FL.out
            go_wp2_with fail
            go_roundw
            case rel => exact ⟨j + 1, by omega, by go_num, A', n, c', rfl, Lib.hid ⟨acc, hn, by omega, own, by rw [← HB.out]; exact HLX.out, flt⟩⟩
            case measure => simp [intOf]; omega
          | false =>
            cases q4 : ((s[j].toNat : Int) == 13) with
            | true =>
              have HB := Lib.hid (lexS_blank (acc := acc) hlt (by rw [blank_of, q1, q2, q3, q4]; rfl))
              have own := OW.out
              have flt := FL.out
              go_wp2_with fail
              go_roundw
              case rel => exact ⟨j + 1, by omega, by go_num, A', n, c', rfl, Lib.hid ⟨acc, hn, by omega, own, by rw [← HB.out]; exact HLX.out, flt⟩⟩
              case measure => simp [intOf]; omega
            | false =>
              have HNB : Hid (blankB s[j] = false) := Lib.hid (by rw [blank_of, q1, q2, q3, q4]; rfl)
              have hbd := signP_bd s j hlt
              have HSG := Lib.hid (lexS_sign (acc := acc) hlt HNB.out)
              have HBD := Lib.hid (lexS_bad (acc := acc) hlt HNB.out)
              cases hsm : smallB (s[j].toNat : Int) with
              | true =>
                have HW := Lib.hid (word_run s j hlt hsm)
                have hsp : signP s j hlt = (1, runE s j, decide (runE s j - j ≤ 12)) := by unfold signP; rw [if_pos hsm]
                rw [hsp] at hbd HSG HBD
                simp only at hbd HSG HBD
                clear hsp
                go_upto_region 18 with (first | (go_at_call 39; refine (spec_l02Letter _ _).mono ?_; rintro e w' ⟨rfl, rfl⟩) | (go_at_call 42; refine (spec_l02Figure _ _).mono ?_; rintro e w' ⟨rfl, rfl⟩) | (go_at_call 40; refine (spec_l02Run s j (by omega) (by omega) _).mono ?_; rintro e w' ⟨rfl, rfl⟩))
                generalize hen : runE s j = en at *
                have HEN := Lib.hid hen
                clear hen
                obtain ⟨ok, hok⟩ : ∃ ok, decide (en - j ≤ 12) = ok := ⟨_, rfl⟩
                rw [hok] at HSG HBD HW
                clear hok
                go_wp2_with fail
                refine (spec_l02Word (s.extract j en) _).mono ?_
                rintro e w' ⟨rfl, rfl⟩
                rw [HW.out]
                cases ok with
                | false =>
                  have HR : Hid (lexR s = ([], 2, (j : Int))) := Lib.hid (by rw [← HLX.out]; exact HBD.out rfl)
                  obtain ⟨y0, y1, f0, f1⟩ := (FL.out.below ((Below.alloc (Below.refl wr.heap.size wr) (Nat.le_refl _) (.cells #[.int .i64 1, .string ⟨#[]⟩, .int .i64 (j : Int)] 62)).alloc (by simp) (.cells #[] 62))).cells
                  go_wp2_with fail
                  change bodyPost _ _ _ _ _ _
                  refine bodyPost_ret (v := .tuple #[.slice (some ⟨wr.heap.size + 1, 0, none⟩) 0 0, .agg #[.int .i64 2, .int .i64 (j : Int)]]) (by simp [results, Tryd.results25, go_sem, y0, y1]) rfl ?_
                  unfold RetL
                  rw [HR.out]
                  exact ⟨_, rfl, setC2 (OutS.empty1 (by simp) (OW.out.own.alloc OW.out.own.size _)) (FL.out.below ((Below.alloc (Below.refl wr.heap.size wr) (Nat.le_refl _) _).alloc (by simp) _)) _ _ (Nat.le_refl _)⟩
                | true =>
                  have HR : Hid (lexS s en (acc ++ [⟨1, s.extract j en, j⟩]) = lexR s) := Lib.hid (by rw [← HLX.out]; exact (HSG.out rfl).symm)
                  go_wp2_with (at_builtin; refine wpList_appG_new (wr.heap.size + 1) (by simp) rfl _ _ _ rfl sgRT (OW.out.below (by repeat' (first | exact Below.refl _ _ | exact Nat.le_refl _ | (refine Below.alloc ?_ ?_ _) | (refine Below.setCell ?_ ?_ _) | (refine Below.drew ?_) | (refine below_drewN ?_ _) | assumption | (simp; done) | (simp; omega)))) _ 1 rfl rfl rfl (by simp [Value.oneCell']) (by simp only [maxLen]; omega) (by omega) ?_; intro v3 w3 own3 gr3; have O3 := Lib.hid own3; have G3 := Lib.hid gr3; clear own3 gr3)
                  have O4 : Hid (OutS w w3 v3 (acc ++ [⟨1, s.extract j en, j⟩])) := Lib.hid (by
                    unfold OutS
                    rw [List.length_append, sgF_snoc]
                    exact O3.out)
                  have F4 := Lib.hid (FL.out.below (Below.alloc (Below.refl _ _) (Nat.le_refl _) (.cells #[.int .i64 1, .string (s.extract j en), .int .i64 (j : Int)] 62)))
                  have F5 := Lib.hid (F4.out.grew (OW.out.below (Below.alloc (Below.refl _ _) (Nat.le_refl _) _)) G3.out)
                  obtain ⟨A3, c3, rfl⟩ := O4.out.slice
                  clear O3 G3 F4
                  go_roundw
                  case rel => exact ⟨en, by omega, by go_num, A3, n + 1, c3, by first | rfl | (rw [List.length_append, hn]; rfl), Lib.hid ⟨_, by rw [List.length_append, hn]; rfl, by omega, by have := O4.out; rw [List.length_append, hn] at this; exact this, HR.out, F5.out⟩⟩
                  case measure => simp [intOf]; omega
              | false =>
                cases hfg : figB (s[j].toNat : Int) with
                | true =>
                  have hsp : signP s j hlt = (2, runE s j, (readD (s.extract j (runE s j))).2) := by unfold signP; rw [if_neg (by rw [hsm]; decide), if_pos hfg]
                  rw [hsp] at hbd HSG HBD
                  simp only at hbd HSG HBD
                  clear hsp
                  go_upto_region 22 with (first | (go_at_call 39; refine (spec_l02Letter _ _).mono ?_; rintro e w' ⟨rfl, rfl⟩) | (go_at_call 42; refine (spec_l02Figure _ _).mono ?_; rintro e w' ⟨rfl, rfl⟩) | (go_at_call 40; refine (spec_l02Run s j (by omega) (by omega) _).mono ?_; rintro e w' ⟨rfl, rfl⟩))
                  generalize hen : runE s j = en at *
                  have HEN := Lib.hid hen
                  clear hen
                  go_wp2_with fail
                  refine (spec_ReadDecimal (s.extract j en) _).mono ?_
                  rintro e w1 ⟨rfl, b1⟩
                  have hx : w1.heap[wr.heap.size]? = some (.cells #[.int .i64 2, .string ⟨#[]⟩, .int .i64 (j : Int)] 62 (0, 0)) := (b1.block _ (by simp)).trans (heap_alloc_new _ _)
                  have O1 := Lib.hid ((OW.out.below (Below.alloc (Below.refl _ _) (Nat.le_refl _) (.cells #[.int .i64 2, .string ⟨#[]⟩, .int .i64 (j : Int)] 62))).below b1)
                  have F1 := Lib.hid ((FL.out.below (Below.alloc (Below.refl _ _) (Nat.le_refl _) (.cells #[.int .i64 2, .string ⟨#[]⟩, .int .i64 (j : Int)] 62))).below b1)
                  have NV : Hid (Value.ownBlock (.slice A' n c') ≠ some wr.heap.size) := Lib.hid (fun e => by have := (OW.out.1.lt _ e).2; omega)
                  have NG : Hid (w.heap.size < wr.heap.size) := Lib.hid (lt_of_block FL.out)
                  have hlw : wr.heap.size < w1.heap.size := lt_of_block hx
                  have x0 : w1.cell? ⟨wr.heap.size, 0, none⟩ = some (.int .i64 2) := by simp [World.cell?, hx]
                  have x1 : w1.cell? ⟨wr.heap.size, 1, none⟩ = some (.string ⟨#[]⟩) := by simp [World.cell?, hx]
                  have x2 : w1.cell? ⟨wr.heap.size, 2, none⟩ = some (.int .i64 (j : Int)) := by simp [World.cell?, hx]
                  have z1 : w1.frozen? ⟨wr.heap.size, 1, none⟩ = false := by simp [World.frozen?, hx]
                  clear hx b1
                  generalize readD (s.extract j en) = rd at *
                  obtain ⟨rn, ok⟩ := rd
                  simp only at HSG HBD
                  cases ok with
                  | false =>
                    have HR : Hid (lexR s = ([], 2, (j : Int))) := Lib.hid (by rw [← HLX.out]; exact HBD.out rfl)
                    obtain ⟨y0, y1, f0, f1⟩ := (F1.out.below (Below.alloc (Below.refl w1.heap.size w1) (Nat.le_refl _) (.cells #[] 62))).cells
                    go_wp2_with fail
                    change bodyPost _ _ _ _ _ _
                    refine bodyPost_ret (v := .tuple #[.slice (some ⟨w1.heap.size, 0, none⟩) 0 0, .agg #[.int .i64 2, .int .i64 (j : Int)]]) (by simp [results, Tryd.results25, go_sem, y0, y1]) rfl ?_
                    unfold RetL
                    rw [HR.out]
                    exact ⟨_, rfl, setC2 (OutS.empty O1.out.own) (F1.out.below (Below.alloc (Below.refl w1.heap.size w1) (Nat.le_refl _) _)) _ _ (Nat.le_refl _)⟩
                  | true =>
                    have HR : Hid (lexS s en (acc ++ [⟨2, s.extract j en, j⟩]) = lexR s) := Lib.hid (by rw [← HLX.out]; exact (HSG.out rfl).symm)
                    have O2 : Hid (OutS w (w1.setCell ⟨wr.heap.size, 1, none⟩ (.string (s.extract j en))) (.slice A' n c') acc) := Lib.hid (setX O1.out NV.out (by have := NG.out; omega) _)
                    have F2 : Hid (FltZ (w1.setCell ⟨wr.heap.size, 1, none⟩ (.string (s.extract j en))) w.heap.size) := Lib.hid ((Below.heap_setCell _ _ _ _ (by have := NG.out; simp; omega)).trans F1.out)
                    go_wp2_with (at_builtin; refine wpList_appG_new w1.heap.size (by simp) rfl _ _ _ rfl sgRT O2.out _ 1 rfl rfl rfl (by simp [Value.oneCell']) (by simp only [maxLen]; omega) (by omega) ?_; intro v3 w3 own3 gr3; have O3 := Lib.hid own3; have G3 := Lib.hid gr3; clear own3 gr3)
                    have O4 : Hid (OutS w w3 v3 (acc ++ [⟨2, s.extract j en, j⟩])) := Lib.hid (by
                      unfold OutS
                      rw [List.length_append, sgF_snoc]
                      exact O3.out)
                    have F5 := Lib.hid (F2.out.grew O2.out G3.out)
                    obtain ⟨A3, c3, rfl⟩ := O4.out.slice
                    clear O3 G3 F2 x0 x1 x2 z1
                    go_roundw
                    case rel => exact ⟨en, by omega, by go_num, A3, n + 1, c3, by first | rfl | (rw [List.length_append, hn]; rfl), Lib.hid ⟨_, by rw [List.length_append, hn]; rfl, by omega, by have := O4.out; rw [List.length_append, hn] at this; exact this, HR.out, F5.out⟩⟩
                    case measure => simp [intOf]; omega
                | false =>
                  by_cases g2 : j + 2 ≤ s.size
                  · have hd := two_eq s j g2
                    have q5 := str_eq_list2 (s.extract j (j + 2)) [61, 61]
                    have htn : ((j : Int) + 2).toNat = j + 2 := by omega
                    have g2' : (j : Int) + 2 ≤ (s.size : Int) := by omega
                    cases he : eqTwo s j with
                    | true =>
                      rw [he] at hd
                      rw [hd] at q5
                      have hsp : signP s j hlt = (3, (j + 2), markB (s.extract j (j + 2))) := by unfold signP; rw [if_neg (by rw [hsm]; decide), if_neg (by rw [hfg]; decide), he]; rfl
                      rw [hsp] at hbd HSG HBD
                      simp only at hbd HSG HBD
                      clear hsp he
                      obtain ⟨ok, hok⟩ : ∃ ok, markB (s.extract j (j + 2)) = ok := ⟨_, rfl⟩
                      rw [hok] at HSG HBD
                      have HOK := Lib.hid hok
                      clear hok
                      go_wp2_with (first | (go_at_call 39; refine (spec_l02Letter _ _).mono ?_; rintro e w' ⟨rfl, rfl⟩) | (go_at_call 42; refine (spec_l02Figure _ _).mono ?_; rintro e w' ⟨rfl, rfl⟩) | (go_at_call 40; refine (spec_l02Run s j (by omega) (by omega) _).mono ?_; rintro e w' ⟨rfl, rfl⟩))
                      refine (spec_IsMark (s.extract j (j + 2)) _).mono ?_
                      rintro e w' ⟨rfl, rfl⟩
                      rw [show isMarkL (s.extract j (j + 2)).toList = ok from HOK.out]
                      cases ok with
                      | false =>
                        have HR : Hid (lexR s = ([], 2, (j : Int))) := Lib.hid (by rw [← HLX.out]; exact HBD.out rfl)
                        obtain ⟨y0, y1, f0, f1⟩ := (FL.out.below ((Below.alloc (Below.refl wr.heap.size wr) (Nat.le_refl _) (.cells #[.int .i64 3, .string ⟨#[]⟩, .int .i64 (j : Int)] 62)).alloc (by simp) (.cells #[] 62))).cells
                        go_wp2_with fail
                        change bodyPost _ _ _ _ _ _
                        refine bodyPost_ret (v := .tuple #[.slice (some ⟨wr.heap.size + 1, 0, none⟩) 0 0, .agg #[.int .i64 2, .int .i64 (j : Int)]]) (by simp [results, Tryd.results25, go_sem, y0, y1]) rfl ?_
                        unfold RetL
                        rw [HR.out]
                        exact ⟨_, rfl, setC2 (OutS.empty1 (by simp) (OW.out.own.alloc OW.out.own.size _)) (FL.out.below ((Below.alloc (Below.refl wr.heap.size wr) (Nat.le_refl _) _).alloc (by simp) _)) _ _ (Nat.le_refl _)⟩
                      | true =>
                        have HR : Hid (lexS s (j + 2) (acc ++ [⟨3, s.extract j (j + 2), j⟩]) = lexR s) := Lib.hid (by rw [← HLX.out]; exact (HSG.out rfl).symm)
                        go_wp2_with (at_builtin; refine wpList_appG_new (wr.heap.size + 1) (by simp) rfl _ _ _ rfl sgRT (OW.out.below (by repeat' (first | exact Below.refl _ _ | exact Nat.le_refl _ | (refine Below.alloc ?_ ?_ _) | (refine Below.setCell ?_ ?_ _) | (refine Below.drew ?_) | (refine below_drewN ?_ _) | assumption | (simp; done) | (simp; omega)))) _ 1 rfl rfl rfl (by simp [Value.oneCell']) (by simp only [maxLen]; omega) (by omega) ?_; intro v3 w3 own3 gr3; have O3 := Lib.hid own3; have G3 := Lib.hid gr3; clear own3 gr3)
                        have O4 : Hid (OutS w w3 v3 (acc ++ [⟨3, s.extract j (j + 2), j⟩])) := Lib.hid (by
                          unfold OutS
                          rw [List.length_append, sgF_snoc]
                          exact O3.out)
                        have F4 := Lib.hid (FL.out.below (Below.alloc (Below.refl _ _) (Nat.le_refl _) (.cells #[.int .i64 3, .string (s.extract j (j + 2)), .int .i64 (j : Int)] 62)))
                        have F5 := Lib.hid (F4.out.grew (OW.out.below (Below.alloc (Below.refl _ _) (Nat.le_refl _) _)) G3.out)
                        obtain ⟨A3, c3, rfl⟩ := O4.out.slice
                        clear O3 G3 F4
                        go_roundw
                        case rel => exact ⟨(j + 2), by omega, by go_num, A3, n + 1, c3, by first | rfl | (rw [List.length_append, hn]; rfl), Lib.hid ⟨_, by rw [List.length_append, hn]; rfl, by omega, by have := O4.out; rw [List.length_append, hn] at this; exact this, HR.out, F5.out⟩⟩
                        case measure => simp [intOf]; omega
                    | false =>
                      rw [he] at hd
                      rw [hd] at q5
                      have hsp : signP s j hlt = (3, (j + 1), markB (s.extract j (j + 1))) := by unfold signP; rw [if_neg (by rw [hsm]; decide), if_neg (by rw [hfg]; decide), he]; rfl
                      rw [hsp] at hbd HSG HBD
                      simp only at hbd HSG HBD
                      clear hsp he
                      obtain ⟨ok, hok⟩ : ∃ ok, markB (s.extract j (j + 1)) = ok := ⟨_, rfl⟩
                      rw [hok] at HSG HBD
                      have HOK := Lib.hid hok
                      clear hok
                      go_wp2_with (first | (go_at_call 39; refine (spec_l02Letter _ _).mono ?_; rintro e w' ⟨rfl, rfl⟩) | (go_at_call 42; refine (spec_l02Figure _ _).mono ?_; rintro e w' ⟨rfl, rfl⟩) | (go_at_call 40; refine (spec_l02Run s j (by omega) (by omega) _).mono ?_; rintro e w' ⟨rfl, rfl⟩))
                      refine (spec_IsMark (s.extract j (j + 1)) _).mono ?_
                      rintro e w' ⟨rfl, rfl⟩
                      rw [show isMarkL (s.extract j (j + 1)).toList = ok from HOK.out]
                      cases ok with
                      | false =>
                        have HR : Hid (lexR s = ([], 2, (j : Int))) := Lib.hid (by rw [← HLX.out]; exact HBD.out rfl)
                        obtain ⟨y0, y1, f0, f1⟩ := (FL.out.below ((Below.alloc (Below.refl wr.heap.size wr) (Nat.le_refl _) (.cells #[.int .i64 3, .string ⟨#[]⟩, .int .i64 (j : Int)] 62)).alloc (by simp) (.cells #[] 62))).cells
                        go_wp2_with fail
                        change bodyPost _ _ _ _ _ _
                        refine bodyPost_ret (v := .tuple #[.slice (some ⟨wr.heap.size + 1, 0, none⟩) 0 0, .agg #[.int .i64 2, .int .i64 (j : Int)]]) (by simp [results, Tryd.results25, go_sem, y0, y1]) rfl ?_
                        unfold RetL
                        rw [HR.out]
                        exact ⟨_, rfl, setC2 (OutS.empty1 (by simp) (OW.out.own.alloc OW.out.own.size _)) (FL.out.below ((Below.alloc (Below.refl wr.heap.size wr) (Nat.le_refl _) _).alloc (by simp) _)) _ _ (Nat.le_refl _)⟩
                      | true =>
                        have HR : Hid (lexS s (j + 1) (acc ++ [⟨3, s.extract j (j + 1), j⟩]) = lexR s) := Lib.hid (by rw [← HLX.out]; exact (HSG.out rfl).symm)
                        go_wp2_with (at_builtin; refine wpList_appG_new (wr.heap.size + 1) (by simp) rfl _ _ _ rfl sgRT (OW.out.below (by repeat' (first | exact Below.refl _ _ | exact Nat.le_refl _ | (refine Below.alloc ?_ ?_ _) | (refine Below.setCell ?_ ?_ _) | (refine Below.drew ?_) | (refine below_drewN ?_ _) | assumption | (simp; done) | (simp; omega)))) _ 1 rfl rfl rfl (by simp [Value.oneCell']) (by simp only [maxLen]; omega) (by omega) ?_; intro v3 w3 own3 gr3; have O3 := Lib.hid own3; have G3 := Lib.hid gr3; clear own3 gr3)
                        have O4 : Hid (OutS w w3 v3 (acc ++ [⟨3, s.extract j (j + 1), j⟩])) := Lib.hid (by
                          unfold OutS
                          rw [List.length_append, sgF_snoc]
                          exact O3.out)
                        have F4 := Lib.hid (FL.out.below (Below.alloc (Below.refl _ _) (Nat.le_refl _) (.cells #[.int .i64 3, .string (s.extract j (j + 1)), .int .i64 (j : Int)] 62)))
                        have F5 := Lib.hid (F4.out.grew (OW.out.below (Below.alloc (Below.refl _ _) (Nat.le_refl _) _)) G3.out)
                        obtain ⟨A3, c3, rfl⟩ := O4.out.slice
                        clear O3 G3 F4
                        go_roundw
                        case rel => exact ⟨(j + 1), by omega, by go_num, A3, n + 1, c3, by first | rfl | (rw [List.length_append, hn]; rfl), Lib.hid ⟨_, by rw [List.length_append, hn]; rfl, by omega, by have := O4.out; rw [List.length_append, hn] at this; exact this, HR.out, F5.out⟩⟩
                        case measure => simp [intOf]; omega
                  · have g2' : ¬ (j : Int) + 2 ≤ (s.size : Int) := by omega
                    have he : eqTwo s j = false := by unfold eqTwo; rw [dif_neg (by omega)]
                    have hsp : signP s j hlt = (3, (j + 1), markB (s.extract j (j + 1))) := by unfold signP; rw [if_neg (by rw [hsm]; decide), if_neg (by rw [hfg]; decide), he]; rfl
                    rw [hsp] at hbd HSG HBD
                    simp only at hbd HSG HBD
                    clear hsp he
                    obtain ⟨ok, hok⟩ : ∃ ok, markB (s.extract j (j + 1)) = ok := ⟨_, rfl⟩
                    rw [hok] at HSG HBD
                    have HOK := Lib.hid hok
                    clear hok
                    go_wp2_with (first | (go_at_call 39; refine (spec_l02Letter _ _).mono ?_; rintro e w' ⟨rfl, rfl⟩) | (go_at_call 42; refine (spec_l02Figure _ _).mono ?_; rintro e w' ⟨rfl, rfl⟩) | (go_at_call 40; refine (spec_l02Run s j (by omega) (by omega) _).mono ?_; rintro e w' ⟨rfl, rfl⟩))
                    refine (spec_IsMark (s.extract j (j + 1)) _).mono ?_
                    rintro e w' ⟨rfl, rfl⟩
                    rw [show isMarkL (s.extract j (j + 1)).toList = ok from HOK.out]
                    cases ok with
                    | false =>
                      have HR : Hid (lexR s = ([], 2, (j : Int))) := Lib.hid (by rw [← HLX.out]; exact HBD.out rfl)
                      obtain ⟨y0, y1, f0, f1⟩ := (FL.out.below ((Below.alloc (Below.refl wr.heap.size wr) (Nat.le_refl _) (.cells #[.int .i64 3, .string ⟨#[]⟩, .int .i64 (j : Int)] 62)).alloc (by simp) (.cells #[] 62))).cells
                      go_wp2_with fail
                      change bodyPost _ _ _ _ _ _
                      refine bodyPost_ret (v := .tuple #[.slice (some ⟨wr.heap.size + 1, 0, none⟩) 0 0, .agg #[.int .i64 2, .int .i64 (j : Int)]]) (by simp [results, Tryd.results25, go_sem, y0, y1]) rfl ?_
                      unfold RetL
                      rw [HR.out]
                      exact ⟨_, rfl, setC2 (OutS.empty1 (by simp) (OW.out.own.alloc OW.out.own.size _)) (FL.out.below ((Below.alloc (Below.refl wr.heap.size wr) (Nat.le_refl _) _).alloc (by simp) _)) _ _ (Nat.le_refl _)⟩
                    | true =>
                      have HR : Hid (lexS s (j + 1) (acc ++ [⟨3, s.extract j (j + 1), j⟩]) = lexR s) := Lib.hid (by rw [← HLX.out]; exact (HSG.out rfl).symm)
                      go_wp2_with (at_builtin; refine wpList_appG_new (wr.heap.size + 1) (by simp) rfl _ _ _ rfl sgRT (OW.out.below (by repeat' (first | exact Below.refl _ _ | exact Nat.le_refl _ | (refine Below.alloc ?_ ?_ _) | (refine Below.setCell ?_ ?_ _) | (refine Below.drew ?_) | (refine below_drewN ?_ _) | assumption | (simp; done) | (simp; omega)))) _ 1 rfl rfl rfl (by simp [Value.oneCell']) (by simp only [maxLen]; omega) (by omega) ?_; intro v3 w3 own3 gr3; have O3 := Lib.hid own3; have G3 := Lib.hid gr3; clear own3 gr3)
                      have O4 : Hid (OutS w w3 v3 (acc ++ [⟨3, s.extract j (j + 1), j⟩])) := Lib.hid (by
                        unfold OutS
                        rw [List.length_append, sgF_snoc]
                        exact O3.out)
                      have F4 := Lib.hid (FL.out.below (Below.alloc (Below.refl _ _) (Nat.le_refl _) (.cells #[.int .i64 3, .string (s.extract j (j + 1)), .int .i64 (j : Int)] 62)))
                      have F5 := Lib.hid (F4.out.grew (OW.out.below (Below.alloc (Below.refl _ _) (Nat.le_refl _) _)) G3.out)
                      obtain ⟨A3, c3, rfl⟩ := O4.out.slice
                      clear O3 G3 F4
                      go_roundw
                      case rel => exact ⟨(j + 1), by omega, by go_num, A3, n + 1, c3, by first | rfl | (rw [List.length_append, hn]; rfl), Lib.hid ⟨_, by rw [List.length_append, hn]; rfl, by omega, by have := O4.out; rw [List.length_append, hn] at this; exact this, HR.out, F5.out⟩⟩
                      case measure => simp [intOf]; omega
    · have h1j : ¬ (j : Int) < (s.size : Int) := by omega
      have HRR : Hid (lexR s = (acc, 0, 0)) := Lib.hid (by rw [← HLX.out]; exact lexS_end hlt)
      obtain ⟨y0, y1, f0, f1⟩ := FL.out.cells
      go_wp2_with fail
      change bodyPost _ _ _ _ _ _
      refine bodyPost_ret (v := .tuple #[.slice A' n c', .agg #[.int .i64 0, .int .i64 0]]) (by simp [results, Tryd.results25, go_sem, y0, y1]) rfl ?_
      unfold RetL
      rw [HRR.out]
      subst hn
      exact ⟨_, rfl, setC2 OW.out FL.out _ _ (Nat.le_refl _)⟩
end Go.Proofs.YtdanlgmpgdipnaaDoor
