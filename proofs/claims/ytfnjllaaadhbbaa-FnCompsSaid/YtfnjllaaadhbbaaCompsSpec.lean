/- The reference's CompsOf. -/
import Derived.Test.YtfnjllaaadhbbaaCompsMem
namespace Go.Proofs.Ytfnjllaaadhbbaa
open Go.RowKit
set_option linter.unusedVariables false

set_option maxHeartbeats 6400000 in
set_option maxRecDepth 100000 in
theorem spec_CompsOf (n : Nat) (v : Value) (ars : List Arc2) (w : World) (h : IsArcs w v ars) (hn : n ≤ 60) (hok : ars.all (arcOk (n : Int)) = true) (hal : ars.length ≤ 2000) :
    Calls Try.prog 10 #[.int .i64 (n : Int), v] w fun e w' => ∃ v', e = .returned v' ∧ OutL w w' v' (compsL n (warsh (arcR ars) n) (n + 1) (fun _ => false)) := by
  have HI := Lib.hid h
  have OK := Lib.hid hok
  have LD := Lib.hid (leads_warsh hok)
  have hgb : graphB (n : Int) ars = true := graph_yes (inB_yes (by omega) (by omega)) hal hok
  have GB := Lib.hid hgb
  clear h hok hgb
  go_enter Try.func10, Try.ntmps10
  go_wp2_with fail
  have OE : Hid (OutL w (w.alloc (.cells #[] 34)) (.slice (some ⟨w.heap.size, 0, none⟩) 0 0) []) := Lib.hid ⟨[], rfl, Own.lit (Below.refl _ _) _ 1 0 #[] (by simp [maxLen]) rfl, fun k h => absurd h (by simp)⟩
  refine (spec_GraphOk n v ars _ (HI.out.below OE.out.own) (by unfold i64ok; omega)).mono ?_
  rintro e w1 ⟨rfl, rfl⟩
  rw [GB.out]
  go_wp2_with fail
  refine (spec_l11Reach n v ars _ (HI.out.below OE.out.own) hn OK.out hal).mono ?_
  rintro e w2 ⟨A2, c2, gs, rfl, hgl, hcm, mo⟩
  unfold maxLen at hcm
  have M2 := Lib.hid (mo.base OE.out.own)
  have O2 := Lib.hid (OE.out.below mo.own.2)
  have GL := Lib.hid hgl
  clear mo hgl
  generalize hWW : warsh (arcR ars) n = W at *
  have HWW := Lib.hid hWW
  clear hWW
  go_wp2_with (at_make; refine wpList_mk1 (w0 := w2) rfl _ _ 50 rfl boolT (.bool false) boolZ rfl (Below.refl _ _) _ _ _ _ n rfl rfl rfl rfl (by omega) (by simp only [maxLen]; omega) ?_; intro g w3 own3)
  have T3 : Hid (ToldO w2.heap.size w3 n g (fun _ => false) ∧ g < w3.heap.size) := Lib.hid (by
    rcases own3.1.2 with ⟨h0, _⟩ | ⟨g', cap, cur, e, hb1, hh, h4, h5, hcs, htk⟩
    · cases h0
    · injection e with e1 e2 e3
      injection e1 with e1
      injection e1 with e1
      subst e1; subst e3
      have hcur : cur = (rowB n (fun _ => false)).toArray := by
        apply Array.ext'
        rw [← rowB_false, ← htk]
        rw [List.take_of_length_le (by rw [Array.length_toList, hcs]; exact Nat.le_refl _)]
      exact ⟨⟨hb1, by rw [hh, hcur]⟩, lt_of_block hh⟩)
  have M3 := Lib.hid (M2.out.below own3.2)
  have O3 := Lib.hid (O2.out.below own3.2)
  have hz2 := M2.out.own.2.size
  have hg2 := T3.out.1.1
  have hg3 := T3.out.2
  have GN : Hid (g ∉ gs) := Lib.hid (fun hm => by have := (M2.out.lt hm).1; omega)
  clear own3
  go_loopw [5, 8] (fun lv q wr => ∃ left : Nat, left ≤ n ∧ q = .int .i64 left ∧ ∃ Ao co m, lv = .slice Ao m co ∧ Hid (∃ f T parts, parts.length = m ∧ m + left ≤ n ∧ left = leftN n T ∧ left < f ∧ Shut W T ∧ parts ++ compsL n W f T = compsL n W (n + 1) (fun _ => false) ∧ ToldO w2.heap.size wr n g T ∧ OutL w wr (.slice Ao m co) parts ∧ Keep (fun i => i < w.heap.size ∨ (i ≠ g ∧ Sane 3 w3 i ∧ Sane 34 w3 i)) w3 wr)) (fun _ q _ => (intOf q).toNat)
  case atStart =>
    have hl0 : leftN n (fun _ => false) = n := by
      unfold leftN
      rw [List.filter_eq_self.2 (by intro a _; rfl), List.length_range]
    exact ⟨n, Nat.le_refl _, rfl, _, _, 0, rfl, Lib.hid ⟨n + 1, _, [], rfl, by omega, hl0.symm, by omega, shut_none W, rfl, T3.out.1, O3.out, Keep.refl _ _⟩⟩
  case round =>
    obtain ⟨left, hleft, rfl, Ao, co, m, rfl, HR⟩ := hrel
    rename World => wq
    obtain ⟨f, T, parts, hpm, hmn, hlf, hff, hsh, hcs, hto, hou, hkp⟩ := HR.out
    by_cases h0 : left = 0
    · subst h0
      have FIN : Hid (OutL w wq (.slice Ao m co) (compsL n W (n + 1) (fun _ => false))) := Lib.hid (by
        rw [← hcs, compsL_none f (next_left hlf.symm), List.append_nil]; exact hou)
      clear hpm hlf hff hsh hcs hto hou hkp HR
      go_wp2_with fail
      go_ret
      exact ⟨_, rfl, by rw [HWW.out]; exact FIN.out⟩
    have hlp : 0 < left := by omega
    have MQ : Hid (MatO w wq n A2 c2 gs W) := Lib.hid (M3.out.keep hkp (fun b hb => .inl hb) (fun b cur hb hc => by
      refine .inr ⟨?_, ?_⟩
      · rintro rfl
        rcases hc with hc | hc
        · rw [T3.out.1.2] at hc; injection hc with hc; injection hc with _ hc; exact absurd hc (by decide)
        · exact GN.out hc
      · rcases hc with hc | hc
        · exact ⟨sane_of hc (by decide), sane_of hc (by decide)⟩
        · obtain ⟨_, _, cur, hc⟩ := M3.out.lt hc
          exact ⟨sane_of hc (by decide), sane_of hc (by decide)⟩))
    have TQ := Lib.hid hto
    have OQ := Lib.hid hou
    have KQ := Lib.hid hkp
    have SH := Lib.hid hsh
    have CS := Lib.hid hcs
    have LF := Lib.hid hlf
    have PM := Lib.hid hpm
    have hgq := lt_of_block hto.2
    have RS := ready_some LD.out (T := T) (by omega)
    have RDY := Lib.hid RS
    have hlp1 : (0 : Int) < (left : Int) := by omega
    clear hpm hlf hsh hcs hto hou hkp HR RS
    go_wp2_with fail
    go_loop [5, 8, 9] (fun s5 s8 iv => s5 = .slice Ao m co ∧ s8 = .int .i64 left ∧ ∃ i : Nat, i ≤ n ∧ iv = .int .i64 i ∧ Hid (∀ k, k < i → readyB n W T k = false)) (fun _ _ iv => n - (intOf iv).toNat)
    case atStart => exact ⟨rfl, rfl, 0, Nat.zero_le _, rfl, Lib.hid (fun k h => by omega)⟩
    case round =>
      obtain ⟨rfl, rfl, i, hi, rfl, HB⟩ := hrel
      by_cases hin : i < n
      case neg =>
        exfalso
        obtain ⟨x, hx, hr⟩ := RDY.out
        rw [HB.out x (by omega)] at hr; cases hr
      have hil : i < gs.length := by have := GL.out; omega
      have cT := TQ.out.cell hin
      obtain ⟨b2, rfl, hrowI⟩ := MQ.out.rd hil
      have h0i : (0 : Int) ≤ (i : Int) := by omega
      have h1i : (i : Int) < (n : Int) := by omega
      have HRI := Lib.hid hrowI
      have hok0 := okJ_zero W T i
      rw [show (T i) = !(okJ W T i 0) from by rw [hok0]; simp] at cT
      generalize hk0 : okJ W T i 0 = k0 at *
      have HK0 := Lib.hid hk0
      clear hk0 hok0
      go_wp2_with fail
      go_loop [10, 11] (fun kv jv => ∃ j : Nat, j ≤ n ∧ jv = .int .i64 j ∧ kv = .bool (okJ W T i j)) (fun _ jv => n - (intOf jv).toNat)
      case atStart => exact ⟨0, Nat.zero_le _, rfl, by rw [HK0.out]⟩
      case round =>
        obtain ⟨j, hj, rfl, rfl⟩ := hrel
        have h0j : (0 : Int) ≤ (j : Int) := by omega
        cases hkj : okJ W T i j with
        | false =>
          have HB2 : Hid (∀ k, k < i + 1 → readyB n W T k = false) := Lib.hid (fun k hk => by
            by_cases e : k = i
            · subst e; exact okJ_false hkj hj
            · exact HB.out k (by omega))
          clear hkj cT
          by_cases hjn : (j : Int) < (n : Int)
          · go_wp2_with fail
            go_round
            case rel => exact ⟨rfl, rfl, i + 1, by omega, by go_num, HB2⟩
            case measure => simp [intOf]; omega
          · go_wp2_with fail
            go_round
            case rel => exact ⟨rfl, rfl, i + 1, by omega, by go_num, HB2⟩
            case measure => simp [intOf]; omega
        | true =>
          have HKJ := Lib.hid hkj
          by_cases hjn : j < n
          · have h1j : (j : Int) < (n : Int) := by omega
            have hjl : j < gs.length := by have := GL.out; omega
            have cIJ := MQ.out.cell hil hjn
            have cJI := MQ.out.cell hjl hin
            have cTJ := TQ.out.cell hjn
            obtain ⟨b3, eb3, hrowJ⟩ := MQ.out.rd hjl
            injection eb3 with eb3
            injection eb3 with eb3
            subst eb3
            have hS : Hid (okJ W T i (j + 1) = readyJ W T i j) := Lib.hid (by rw [okJ_succ, hkj, Bool.true_and])
            unfold readyJ at hS
            clear hkj cT
            cases e1 : W i j <;> cases e2 : W j i <;> cases e3 : T j
            all_goals
              rw [e1] at cIJ
              rw [e2] at cJI
              rw [e3] at cTJ
              rw [e1, e2, e3] at hS
              clear e1 e2 e3
              go_wp2_with fail
              go_round
              case rel => exact ⟨j + 1, by omega, by go_num, by rw [hS.out]; rfl⟩
              case measure => simp [intOf]; omega
          · obtain rfl : j = n := by omega
            have RB : Hid (readyB j W T i = true) := Lib.hid (okJ_true hkj)
            have NX : Hid (nextI j W T = some i) := Lib.hid (next_at hin RB.out HB.out)
            have TI := Lib.hid (ready_told RB.out).1
            have h1j : ¬ ((j : Int) < (j : Int)) := by omega
            have PE : Hid (OwnX wq.heap.size (wq.alloc (.cells #[] 3)) 3 1 (.slice (some ⟨wq.heap.size, 0, none⟩) 0 0) 0 []) := Lib.hid (OwnX.of_own (Own.lit (Below.refl wq.heap.size wq) _ 1 0 #[] (by simp [maxLen]) rfl))
            have TE : Hid (ToldO w2.heap.size (wq.alloc (.cells #[] 3)) j g (toldJ W T i 0)) := Lib.hid (by rw [toldJ_zero]; exact TQ.out.keep (S := fun _ => True) (Keep.of_below (Below.alloc (Below.refl _ _) (Nat.le_refl _) _)) trivial)
            have KE : Hid (Keep (fun b => b ≠ g) wq (wq.alloc (.cells #[] 3))) := Lib.hid (Keep.of_below (Below.alloc (Below.refl _ _) (Nat.le_refl _) _))
            clear hkj cT
            go_wp2_with fail
            go_loopw [12, 13] (fun lv jv wr => ∃ q : Nat, q ≤ j ∧ jv = .int .i64 q ∧ ∃ A' c', lv = .slice A' (partJ W i q).length c' ∧ Hid (OwnX wq.heap.size wr 3 1 (.slice A' (partJ W i q).length c') (partJ W i q).length (numV (partJ W i q)) ∧ ToldO w2.heap.size wr j g (toldJ W T i q) ∧ Keep (fun b => b ≠ g) wq wr)) (fun _ jv _ => j - (intOf jv).toNat)
            case atStart => exact ⟨0, Nat.zero_le _, rfl, _, _, rfl, Lib.hid ⟨PE.out, TE.out, KE.out⟩⟩
            case round =>
              obtain ⟨q, hq, rfl, A', c', rfl, HP⟩ := hrel
              have hpl := partJ_len W i q
              have MR : Hid (MatO w wr j (some ⟨b2, 0, none⟩) c2 gs W) := Lib.hid (MQ.out.keep HP.out.2.2 (fun b hb => by omega) (fun b cur hb hc => by
                rintro rfl
                rcases hc with hc | hc
                · rw [TQ.out.2] at hc; injection hc with hc; injection hc with _ hc; exact absurd hc (by decide)
                · exact GN.out hc))
              by_cases hqj : q < j
              · have h0q : (0 : Int) ≤ (q : Int) := by omega
                have h1q : (q : Int) < (j : Int) := by omega
                have hql : q < gs.length := by have := GL.out; omega
                have cIQ := MR.out.cell hil hqj
                have cQI := MR.out.cell hql hin
                obtain ⟨b3, eb3, hrI⟩ := MR.out.rd hil
                injection eb3 with eb3
                injection eb3 with eb3
                subst eb3
                obtain ⟨b4, eb4, hrQ⟩ := MR.out.rd hql
                injection eb4 with eb4
                injection eb4 with eb4
                subst eb4
                have hje : ((q : Int) == (i : Int)) = decide (q = i) := by rw [Bool.eq_iff_iff, beq_iff_eq, decide_eq_true_eq]; omega
                cases hin2 : inPart W i q with
                | false =>
                  have HL := Lib.hid (partJ_no hin2)
                  have HT := Lib.hid (toldJ_no (T := T) hin2)
                  have RN : Hid (OwnX wq.heap.size wr 3 1 (.slice A' (partJ W i (q + 1)).length c') (partJ W i (q + 1)).length (numV (partJ W i (q + 1))) ∧ ToldO w2.heap.size wr j g (toldJ W T i (q + 1)) ∧ Keep (fun b => b ≠ g) wq wr) := Lib.hid (by rw [HL.out, HT.out]; exact HP.out)
                  unfold inPart at hin2
                  by_cases e : q = i
                  · rw [decide_eq_true e] at hin2; cases hin2
                  rw [decide_eq_false e] at hin2 hje
                  clear e
                  cases e1 : W i q <;> cases e2 : W q i
                  all_goals
                    rw [e1] at cIQ hin2
                    rw [e2] at cQI hin2
                    first
                    | cases hin2; done
                    | clear e1 e2 hin2
                      go_wp2_with fail
                      go_roundw
                      case rel => exact ⟨q + 1, by omega, by go_num, A', c', by rw [HL.out], RN⟩
                      case measure => simp [intOf]; omega
                | true =>
                  have HL := Lib.hid (partJ_yes hin2)
                  have HT := Lib.hid (toldJ_yes (T := T) hin2)
                  have hcg : (Value.slice A' (partJ W i q).length c').ownBlock ≠ some g := fun e => by have := (HP.out.1.lt g e).1; omega
                  have HCG := Lib.hid hcg
                  clear hcg
                  have hgw := lt_of_block HP.out.2.1.2
                  unfold inPart at hin2
                  by_cases e : q = i
                  · rw [decide_eq_true e] at hje
                    clear e hin2
                    go_wp2_with (at_builtin; refine wpList_appG_new wr.heap.size rfl rfl _ _ _ rfl intT1 HP.out.1.own _ 1 rfl rfl rfl (by simp [Value.oneCell']) (by simp only [maxLen]; omega) (by omega) ?_; intro v8 w8 own8 gr8; have O8 : Hid (OwnX wq.heap.size w8 3 1 v8 (partJ W i (q + 1)).length (numV (partJ W i (q + 1)))) := Lib.hid (by rw [HL.out, List.length_append, numV_append]; exact OwnX.of HP.out.1.2 own8); have T8 : Hid (ToldO w2.heap.size w8 j g (toldJ W T i q)) := Lib.hid (HP.out.2.1.keep gr8.keep HCG.out); have K8 : Hid (Keep (fun b => b ≠ g) wq w8) := Lib.hid (HP.out.2.2.trans (gr8.keep) (fun b hb _ e => by have := (HP.out.1.lt b e).1; omega)); have c8 := T8.out.cell hqj; have f8 := T8.out.free q; have RN : Hid (OwnX wq.heap.size (w8.setCell ⟨g, q, none⟩ (.bool true)) 3 1 v8 (partJ W i (q + 1)).length (numV (partJ W i (q + 1))) ∧ ToldO w2.heap.size (w8.setCell ⟨g, q, none⟩ (.bool true)) j g (toldJ W T i (q + 1)) ∧ Keep (fun b => b ≠ g) wq (w8.setCell ⟨g, q, none⟩ (.bool true))) := Lib.hid ⟨O8.out.setO (gr_ne gr8 HCG.out hgw) _, (by rw [← HT.out]; exact T8.out.set), K8.out.setCell (fun h => h rfl) _⟩; obtain ⟨A8, c8', rfl, _⟩ := O8.out.own.slice; clear own8 gr8)
                    go_roundw
                    case rel => exact ⟨q + 1, by omega, by go_num, A8, c8', rfl, RN⟩
                    case measure => simp [intOf]; omega
                  · rw [decide_eq_false e] at hin2 hje
                    clear e
                    cases e1 : W i q <;> cases e2 : W q i
                    all_goals
                      rw [e1] at cIQ hin2
                      rw [e2] at cQI hin2
                      first
                      | cases hin2; done
                      | clear e1 e2 hin2
                        go_wp2_with (at_builtin; refine wpList_appG_new wr.heap.size rfl rfl _ _ _ rfl intT1 HP.out.1.own _ 1 rfl rfl rfl (by simp [Value.oneCell']) (by simp only [maxLen]; omega) (by omega) ?_; intro v8 w8 own8 gr8; have O8 : Hid (OwnX wq.heap.size w8 3 1 v8 (partJ W i (q + 1)).length (numV (partJ W i (q + 1)))) := Lib.hid (by rw [HL.out, List.length_append, numV_append]; exact OwnX.of HP.out.1.2 own8); have T8 : Hid (ToldO w2.heap.size w8 j g (toldJ W T i q)) := Lib.hid (HP.out.2.1.keep gr8.keep HCG.out); have K8 : Hid (Keep (fun b => b ≠ g) wq w8) := Lib.hid (HP.out.2.2.trans (gr8.keep) (fun b hb _ e => by have := (HP.out.1.lt b e).1; omega)); have c8 := T8.out.cell hqj; have f8 := T8.out.free q; have RN : Hid (OwnX wq.heap.size (w8.setCell ⟨g, q, none⟩ (.bool true)) 3 1 v8 (partJ W i (q + 1)).length (numV (partJ W i (q + 1))) ∧ ToldO w2.heap.size (w8.setCell ⟨g, q, none⟩ (.bool true)) j g (toldJ W T i (q + 1)) ∧ Keep (fun b => b ≠ g) wq (w8.setCell ⟨g, q, none⟩ (.bool true))) := Lib.hid ⟨O8.out.setO (gr_ne gr8 HCG.out hgw) _, (by rw [← HT.out]; exact T8.out.set), K8.out.setCell (fun h => h rfl) _⟩; obtain ⟨A8, c8', rfl, _⟩ := O8.out.own.slice; clear own8 gr8)
                        go_roundw
                        case rel => exact ⟨q + 1, by omega, by go_num, A8, c8', rfl, RN⟩
                        case measure => simp [intOf]; omega
              · obtain rfl : q = j := by omega
                have hqq : ¬ ((q : Int) < (q : Int)) := by omega
                have LN : Hid (leftN q (toldN W T i) + (partJ W i q).length = left) := Lib.hid (by rw [LF.out]; exact left_next SH.out TI.out)
                have hpp : 0 < (partJ W i q).length := part_pos (W := W) hin
                have hln : (partJ W i q).length ≤ left := by have := LN.out; omega
                have TN : Hid (ToldO w2.heap.size wr q g (toldN W T i)) := Lib.hid (HP.out.2.1.congr fun x hx => toldJ_all hx)
                have hwq := OQ.out.own.size
                have PX : Hid (OwnX w.heap.size wr 3 1 (.slice A' (partJ W i q).length c') (partJ W i q).length (numV (partJ W i q))) := Lib.hid (HP.out.1.lower hwq)
                have OR : Hid (OutL w wr (.slice Ao m co) parts) := Lib.hid (OQ.out.keep HP.out.2.2 (fun b hb => by omega) (fun b cur hb hc => by
                  rintro rfl
                  rcases hc with hc | hc
                  · rw [TQ.out.2] at hc; injection hc with hc; injection hc with _ hc; exact absurd hc (by decide)
                  · rw [TQ.out.2] at hc; injection hc with hc; injection hc with _ hc; exact absurd hc (by decide)))
                have hpm := PM.out
                obtain ⟨f', hf'⟩ : ∃ f', f = f' + 1 := ⟨f - 1, by omega⟩
                subst hf'
                have KR : Hid (Keep (fun i => i < w.heap.size ∨ (i ≠ g ∧ Sane 3 w3 i ∧ Sane 34 w3 i)) w3 wr) := Lib.hid (KQ.out.trans HP.out.2.2 (fun b hb hs => by
                  rcases hs with hs | hs
                  · omega
                  · exact hs.1))
                obtain ⟨us, hu1, hu2, hu3⟩ := OR.out
                have NG : Hid ((Value.slice Ao m co).ownBlock ≠ some g) := Lib.hid (hu2.neT (sane_of TN.out.2 (by decide)))
                have VN : Hid (∀ b, b < w3.heap.size → (b < w.heap.size ∨ (b ≠ g ∧ Sane 3 w3 b ∧ Sane 34 w3 b)) → (Value.slice Ao m co).ownBlock ≠ some b) := Lib.hid (fun b hb hs => by
                  rcases hs with hs | hs
                  · intro e
                    have := ((OwnX.of_own hu2).lt b e).1
                    omega
                  · exact hu2.neT (fun cur hc => hs.2.2 cur (by rw [← KR.out.block b hb (.inr hs)]; exact hc)))
                have NXT : Hid ((parts ++ [partJ W i q]) ++ compsL q W f' (toldN W T i) = compsL q W (q + 1) (fun _ => false)) := Lib.hid (by
                  rw [← CS.out, compsL_some f' NX.out, List.append_assoc]; rfl)
                have t1 : parts.length + 1 ≤ maxLen := by simp only [maxLen]; omega
                have t2 : (parts.length + 1) * 24 ≤ 140737488355328 := by omega
                have t3 : ∀ v9 w9, Own w w9 34 1 v9 (parts.length + 1) (us ++ (#[Value.slice A' (partJ W i q).length c'] : Array Value).toList) → Grew (.slice Ao m co) v9 wr w9 → OutL w w9 v9 (parts ++ [partJ W i q]) ∧ ToldO w2.heap.size w9 q g (toldN W T i) ∧ Keep (fun i => i < w.heap.size ∨ (i ≠ g ∧ Sane 3 w3 i ∧ Sane 34 w3 i)) w3 w9 := fun v9 w9 own9 gr9 => ⟨OutL.add hu1 hu3 PX.out own9 (gr9.keepT hu2), TN.out.keep gr9.keep NG.out, KR.out.trans gr9.keep VN.out⟩
                have T3 := Lib.hid t3
                have HL9 : Hid ((parts ++ [partJ W i q]).length = m + 1) := Lib.hid (by rw [List.length_append, List.length_singleton]; omega)
                clear HP MR t3
                go_wp2_with (at_builtin; refine wpList_appG_new wr.heap.size rfl rfl _ _ _ rfl intsT1 hu2 _ 1 rfl rfl rfl (by simp [Value.oneCell']) t1 t2 ?_; intro v9 w9 own9 gr9; have X9 := Lib.hid (T3.out v9 w9 own9 gr9); obtain ⟨A9, c9, rfl, _⟩ := X9.out.1.slice; rw [HL9.out] at X9 ⊢; clear own9 gr9)
                go_roundw
                case rel => exact ⟨left - (partJ W i q).length, by omega, by go_num, A9, c9, _, rfl, Lib.hid ⟨f', _, _, HL9.out, by omega, by have := LN.out; omega, by omega, shut_next LD.out SH.out i, NXT.out, X9.out.2.1, X9.out.1, X9.out.2.2⟩⟩
                case measure => simp [intOf]; omega
end Go.Proofs.Ytfnjllaaadhbbaa
