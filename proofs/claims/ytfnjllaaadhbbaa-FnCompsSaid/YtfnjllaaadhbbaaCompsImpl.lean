/- The program's compSets. -/
import Derived.Test.YtfnjllaaadhbbaaCompsMem
import Derived.Test.YtfnjllaaadhbbaaCompsBits
import Derived.Test.YtfnjllaaadhbbaaClosure
namespace Go.Proofs.Ytfnjllaaadhbbaa
open Go.RowKit
set_option linter.unusedVariables false

def lenV : Value → Nat
  | .slice _ m _ => m
  | _ => 0
theorem RowsO.keep {w0 w w' : World} {n g : Nat} {rows : List Nat} {S : Nat → Prop} (h : RowsO w0 w n g rows) (hk : Keep S w w') (hg : S g) (hb : Below w0.heap.size w0 w') : RowsO w0 w' n g rows :=
  ⟨h.len, OwnX.toOwn ((OwnX.of_own h.own).keep hk fun b e => by injection e with e; subst e; exact hg) hb (Nat.le_refl _)⟩
theorem RowsO.kind {w0 w : World} {n g : Nat} {rows : List Nat} {t : TypeId} (h : RowsO w0 w n g rows) (ht : 51 ≠ t) : Sane t w g := (OwnX.of_own h.own).sane ht g rfl
theorem RowsO.lt {w0 w : World} {n g : Nat} {rows : List Nat} (h : RowsO w0 w n g rows) : w0.heap.size ≤ g ∧ g < w.heap.size := (OwnX.of_own h.own).lt g rfl
/-- the bit's test, in both spellings -/
theorem test_two {a k : Nat} {r : Bool} (ha : a < M64) (hk : k < 60) (h : a.testBit k = r) : (bits .and .u64 ((a : Int) / 2 ^ (min k 64)) 1 == 1) = r ∧ (bits .and .u64 ((a : Int) / 2 ^ k) 1 == 1) = r := by
  have h1 := test_of ha hk
  have h2 := h1
  rw [show min k 64 = k from by omega] at h2
  exact ⟨h1.trans h, h2.trans h⟩
set_option maxHeartbeats 6400000 in
set_option maxRecDepth 100000 in
theorem impl_compSets (n : Nat) (v : Value) (ars : List Arc2) (w : World) (h : IsArcs w v ars) (hn : n ≤ 60) (hok : ars.all (arcOk (n : Int)) = true) (hal : ars.length ≤ 2000) :
    Calls Try.prog 24 #[.int .i64 (n : Int), v] w fun e w' => ∃ v', e = .returned v' ∧ OutL w w' v' (compsL n (warsh (arcR ars) n) (n + 1) (fun _ => false)) := by
  have HI := Lib.hid h
  have OK := Lib.hid hok
  have LD := Lib.hid (leads_warsh hok)
  clear h hok
  go_enter Try.func24, Try.ntmps24
  go_wp2_with fail
  refine (impl_closure n v ars _ HI.out hn OK.out hal).mono ?_
  rintro e w1 ⟨g, rows, rfl, ro, bi⟩
  have RO1 := Lib.hid ro
  have BI := Lib.hid bi
  clear ro bi
  generalize hWW : warsh (arcR ars) n = W at *
  have HWW := Lib.hid hWW
  clear hWW
  go_wp2_with fail
  go_loopw [6, 7] (fun lv dv wr => ∃ dm : Nat, dv = .int .u64 dm ∧ ∃ Ao co m, lv = .slice Ao m co ∧ m ≤ n ∧ Hid (∃ f T parts, parts.length = m ∧ m + leftN n T ≤ n ∧ leftN n T < f ∧ Shut W T ∧ parts ++ compsL n W f T = compsL n W (n + 1) (fun _ => false) ∧ BitsOf n dm T ∧ OutL w wr (.slice Ao m co) parts ∧ RowsO w wr n g rows)) (fun lv _ _ => n - lenV lv)
  case atStart =>
    have hl0 : leftN n (fun _ => false) = n := by
      unfold leftN
      rw [List.filter_eq_self.2 (by intro a _; rfl), List.length_range]
    exact ⟨0, rfl, none, 0, 0, rfl, Nat.zero_le _, Lib.hid ⟨n + 1, _, [], rfl, by omega, by omega, shut_none W, rfl, BitsOf.zero n, OutL.start _ _ RO1.out.own.2, RO1.out⟩⟩
  case round =>
    obtain ⟨dm, rfl, Ao, co, m, rfl, hmn, HR⟩ := hrel
    rename World => wq
    obtain ⟨f, T, parts, hpm, hml, hff, hsh, hcs, hbd, hou, hro⟩ := HR.out
    have PM := Lib.hid hpm
    have ML := Lib.hid hml
    have FF := Lib.hid hff
    have SH := Lib.hid hsh
    have CS := Lib.hid hcs
    have BD := Lib.hid hbd
    have OQ := Lib.hid hou
    have RQ := Lib.hid hro
    have hd64 := hbd.lt hn
    clear hpm hml hff hsh hcs hbd hou hro HR
    go_wp2_with fail
    go_loop [8, 9, 10] (fun fv pv iv => ∃ i : Nat, i ≤ n ∧ iv = .int .i64 i ∧ ∃ pm : Nat, pv = .int .u64 pm ∧ ((fv = .int .i64 (-1) ∧ Hid (∀ k, k < i → readyB n W T k = false)) ∨ (∃ x : Nat, x < n ∧ fv = .int .i64 x ∧ Hid (nextI n W T = some x ∧ BitsOf n pm (inPart W x))))) (fun _ _ iv => n - (intOf iv).toNat)
    case atStart => exact ⟨0, Nat.zero_le _, rfl, 0, rfl, .inl ⟨rfl, Lib.hid (fun k h => by omega)⟩⟩
    case round =>
      obtain ⟨i, hi, rfl, pm, rfl, hc⟩ := hrel
      rcases hc with ⟨rfl, HB⟩ | ⟨x, hxn, rfl, HX⟩
      · by_cases hin : i < n
        · have h0i : (0 : Int) ≤ (i : Int) := by omega
          have h1i : (i : Int) < (n : Int) := by omega
          have hi60 : i < 60 := by omega
          have hil : i < rows.length := by have := RQ.out.len; omega
          cases hT : T i with
          | true =>
            have HB2 : Hid (∀ k, k < i + 1 → readyB n W T k = false) := Lib.hid (fun k hk => by
              by_cases e : k = i
              · subst e; exact ready_no_told hT
              · exact HB.out k (by omega))
            obtain ⟨t1, t2⟩ := test_two hd64 hi60 ((BD.out.1 i hin).trans hT)
            clear hT
            go_wp2_with fail
            go_round
            case rel => exact ⟨i + 1, by omega, by go_num, pm, rfl, .inl ⟨rfl, HB2⟩⟩
            case measure => simp [intOf]; omega
          | false =>
            have HTI := Lib.hid hT
            obtain ⟨t1, t2⟩ := test_two hd64 hi60 ((BD.out.1 i hin).trans hT)
            have hs := shl_one hi60
            have hs2 : IntKind.u64.wrap (2 ^ i) = ((2 ^ i : Nat) : Int) := by rw [← hs, show min i 64 = i from by omega]
            have cI := RQ.out.cell hil
            have hrI64 : rows[i] < M64 := bits_lt BI.out LD.out.inR hn hil
            have HR64 := Lib.hid hrI64
            clear hT
            go_wp2_with fail
            go_loop [9, 36] (fun pv jv => ∃ q : Nat, q ≤ n ∧ jv = .int .i64 q ∧ ∃ pm : Nat, pv = .int .u64 pm ∧ Hid (BitsOf n pm (partA W i q))) (fun _ jv => n - (intOf jv).toNat)
            case atStart => exact ⟨0, Nat.zero_le _, rfl, 2 ^ i, by first | rfl | (push_cast; rfl) | simp, Lib.hid (partA_zero W hin)⟩
            case round =>
              obtain ⟨q, hq, rfl, pm, rfl, HP⟩ := hrel
              have hp64 := HP.out.lt hn
              by_cases hqn : q < n
              · have h0q : (0 : Int) ≤ (q : Int) := by omega
                have h1q : (q : Int) < (n : Int) := by omega
                have hq60 : q < 60 := by omega
                have hql : q < rows.length := by have := RQ.out.len; omega
                have cQ := RQ.out.cell hql
                have hrQ64 : rows[q] < M64 := bits_lt BI.out LD.out.inR hn hql
                cases e1 : W i q with
                | false =>
                  obtain ⟨t3, t4⟩ := test_two hrI64 hq60 ((BI.out i hil q).trans e1)
                  have RN : Hid (BitsOf n pm (partA W i (q + 1))) := Lib.hid (partA_no HP.out (by rw [e1]; rfl))
                  clear e1
                  go_wp2_with fail
                  go_round
                  case rel => exact ⟨q + 1, by omega, by go_num, pm, rfl, RN⟩
                  case measure => simp [intOf]; omega
                | true =>
                  obtain ⟨t3, t4⟩ := test_two hrI64 hq60 ((BI.out i hil q).trans e1)
                  cases e2 : W q i with
                  | false =>
                    obtain ⟨t5, t6⟩ := test_two hrQ64 hi60 ((BI.out q hql i).trans e2)
                    have RN : Hid (BitsOf n pm (partA W i (q + 1))) := Lib.hid (partA_no HP.out (by rw [e1, e2]; rfl))
                    clear e1 e2
                    go_wp2_with fail
                    go_round
                    case rel => exact ⟨q + 1, by omega, by go_num, pm, rfl, RN⟩
                    case measure => simp [intOf]; omega
                  | true =>
                    obtain ⟨t5, t6⟩ := test_two hrQ64 hi60 ((BI.out q hql i).trans e2)
                    have RN : Hid (BitsOf n (pm ||| 2 ^ q) (partA W i (q + 1))) := Lib.hid (partA_yes HP.out hqn e1 e2)
                    have hsq := shl_one hq60
                    have hsq2 : IntKind.u64.wrap (2 ^ q) = ((2 ^ q : Nat) : Int) := by rw [← hsq, show min q 64 = q from by omega]
                    have ORQ : Hid (bits .or .u64 (pm : Int) ((2 ^ q : Nat) : Int) = ((pm ||| 2 ^ q : Nat) : Int)) := Lib.hid (or_of hp64 (two_pow_lt hq60))
                    clear e1 e2
                    go_wp2_with fail
                    go_round
                    case rel => exact ⟨q + 1, by omega, by go_num, pm ||| 2 ^ q, by rw [← ORQ.out]; first | rfl | (push_cast; rfl), RN⟩
                    case measure => simp [intOf]; omega
              · obtain rfl : q = n := by omega
                have hqq : ¬ ((q : Int) < (q : Int)) := by omega
                have BM := Lib.hid (partA_all HP.out)
                have hrb := ready_bits hn LD.out.inR hrI64 (BI.out i hil) BM.out BD.out HTI.out
                cases hr : readyB q W T i with
                | true =>
                  have NX := Lib.hid (And.intro (next_at hin hr HB.out) BM.out)
                  rw [hr] at hrb
                  clear hr
                  go_wp2_with fail
                  go_round
                  case rel => exact ⟨i + 1, by omega, by go_num, pm, rfl, .inr ⟨i, hin, rfl, NX⟩⟩
                  case measure => simp [intOf]; omega
                | false =>
                  have HB2 : Hid (∀ k, k < i + 1 → readyB q W T k = false) := Lib.hid (fun k hk => by
                    by_cases e : k = i
                    · subst e; exact hr
                    · exact HB.out k (by omega))
                  rw [hr] at hrb
                  clear hr
                  go_wp2_with fail
                  go_round
                  case rel => exact ⟨i + 1, by omega, by go_num, pm, rfl, .inl ⟨rfl, HB2⟩⟩
                  case measure => simp [intOf]; omega
        · obtain rfl : i = n := by omega
          have hii : ¬ ((i : Int) < (i : Int)) := by omega
          have FIN : Hid (OutL w wq (.slice Ao m co) (compsL i W (i + 1) (fun _ => false))) := Lib.hid (by
            rw [← CS.out, compsL_none f (next_no HB.out), List.append_nil]; exact OQ.out)
          go_wp2_with fail
          go_ret
          exact ⟨_, rfl, by rw [HWW.out]; exact FIN.out⟩
      · by_cases hin : (i : Int) < (n : Int)
        all_goals
          have hx0 : ¬ ((x : Int) < 0) := (by omega)
          have BX := Lib.hid HX.out.2
          have hp64 := BX.out.lt hn
          have PE : Hid (OwnX wq.heap.size wq 3 1 (.slice none 0 0) 0 []) := Lib.hid (OwnX.of_own (Own.startB (Below.refl wq.heap.size wq) _ _))
          go_wp2_with fail
          go_loopw [12, 79] (fun lv jv wr => ∃ q : Nat, q ≤ n ∧ jv = .int .i64 q ∧ ∃ A' c', lv = .slice A' (partJ W x q).length c' ∧ Hid (OwnX wq.heap.size wr 3 1 (.slice A' (partJ W x q).length c') (partJ W x q).length (numV (partJ W x q)) ∧ Keep (fun _ => True) wq wr)) (fun _ jv _ => n - (intOf jv).toNat)
          case atStart => exact ⟨0, Nat.zero_le _, rfl, none, 0, rfl, Lib.hid ⟨PE.out, Keep.refl _ _⟩⟩
          case round =>
            obtain ⟨q, hq, rfl, A', c', rfl, HP⟩ := hrel
            have hpl := partJ_len W x q
            by_cases hqn : q < n
            · have h0q : (0 : Int) ≤ (q : Int) := by omega
              have h1q : (q : Int) < (n : Int) := by omega
              have hq60 : q < 60 := by omega
              cases hin2 : inPart W x q with
              | false =>
                obtain ⟨t3, t4⟩ := test_two hp64 hq60 ((BX.out.1 q hqn).trans hin2)
                have HL := Lib.hid (partJ_no hin2)
                have RN : Hid (OwnX wq.heap.size wr 3 1 (.slice A' (partJ W x (q + 1)).length c') (partJ W x (q + 1)).length (numV (partJ W x (q + 1))) ∧ Keep (fun _ => True) wq wr) := Lib.hid (by rw [HL.out]; exact HP.out)
                clear hin2
                go_wp2_with fail
                go_roundw
                case rel => exact ⟨q + 1, by omega, by go_num, A', c', by rw [HL.out], RN⟩
                case measure => simp [intOf]; omega
              | true =>
                obtain ⟨t3, t4⟩ := test_two hp64 hq60 ((BX.out.1 q hqn).trans hin2)
                have HL := Lib.hid (partJ_yes hin2)
                clear hin2
                have T3 : Hid (∀ v8 w8, Own (cutX wq.heap.size wr) w8 3 1 v8 ((partJ W x q).length + 1) (numV (partJ W x q) ++ (#[Value.int .i64 (q : Int)] : Array Value).toList) → Grew (.slice A' (partJ W x q).length c') v8 wr w8 → OwnX wq.heap.size w8 3 1 v8 (partJ W x (q + 1)).length (numV (partJ W x (q + 1))) ∧ Keep (fun _ => True) wq w8) := Lib.hid (fun v8 w8 own8 gr8 => ⟨by rw [HL.out, List.length_append, numV_append]; exact OwnX.of HP.out.1.2 own8, HP.out.2.trans gr8.keep (fun b hb _ e => by have := (HP.out.1.lt b e).1; omega)⟩)
                go_wp2_with (at_builtin; refine wpList_appG_new wr.heap.size rfl rfl _ _ _ rfl intT1 HP.out.1.own _ 1 rfl rfl rfl (by simp [Value.oneCell']) (by simp only [maxLen]; omega) (by omega) ?_; intro v8 w8 own8 gr8; have RN := Lib.hid (T3.out v8 w8 own8 gr8); obtain ⟨A8, c8', rfl, _⟩ := RN.out.1.own.slice; clear own8 gr8)
                go_roundw
                case rel => exact ⟨q + 1, by omega, by go_num, A8, c8', rfl, RN⟩
                case measure => simp [intOf]; omega
            · obtain rfl : q = n := by omega
              have hqq : ¬ ((q : Int) < (q : Int)) := by omega
              have TI := (ready_told (next_inv HX.out.1).2).1
              have hpp : 0 < (partJ W x q).length := part_pos (W := W) hxn
              have LN : Hid (leftN q (toldN W T x) + (partJ W x q).length = leftN q T) := Lib.hid (left_next SH.out TI)
              have hml := ML.out
              have hff := FF.out
              have hln := LN.out
              have hpm := PM.out
              have hm1 : m < q := by omega
              have PX : Hid (OwnX w.heap.size wr 3 1 (.slice A' (partJ W x q).length c') (partJ W x q).length (numV (partJ W x q))) := Lib.hid (HP.out.1.lower OQ.out.own.size)
              have OR : Hid (OutL w wr (.slice Ao m co) parts) := Lib.hid (OQ.out.keep HP.out.2 (fun _ _ => trivial) (fun _ _ _ _ => trivial))
              have RR : Hid (RowsO w wr q g rows) := Lib.hid (RQ.out.keep HP.out.2 trivial OR.out.own)
              obtain ⟨f', hf'⟩ : ∃ f', f = f' + 1 := ⟨f - 1, by omega⟩
              subst hf'
              obtain ⟨us, hu1, hu2, hu3⟩ := OR.out
              have NXT : Hid ((parts ++ [partJ W x q]) ++ compsL q W f' (toldN W T x) = compsL q W (q + 1) (fun _ => false)) := Lib.hid (by
                rw [← CS.out, compsL_some f' HX.out.1, List.append_assoc]; rfl)
              have t1 : parts.length + 1 ≤ maxLen := by simp only [maxLen]; omega
              have t2 : (parts.length + 1) * 24 ≤ 140737488355328 := by omega
              have HL9 : Hid ((parts ++ [partJ W x q]).length = m + 1) := Lib.hid (by rw [List.length_append, List.length_singleton]; omega)
              have T3 : Hid (∀ v9 w9, Own w w9 34 1 v9 (parts.length + 1) (us ++ (#[Value.slice A' (partJ W x q).length c'] : Array Value).toList) → Grew (.slice Ao m co) v9 wr w9 → OutL w w9 v9 (parts ++ [partJ W x q]) ∧ RowsO w w9 q g rows) := Lib.hid (fun v9 w9 own9 gr9 => ⟨OutL.add hu1 hu3 PX.out own9 (gr9.keepT hu2), RR.out.keep gr9.keep (hu2.neT (RR.out.kind (by decide))) own9.2⟩)
              have ORD : Hid (bits .or .u64 (dm : Int) (pm : Int) = ((dm ||| pm : Nat) : Int)) := Lib.hid (or_of hd64 hp64)
              have BN : Hid (BitsOf q (dm ||| pm) (toldN W T x)) := Lib.hid (told_bits BD.out BX.out)
              have TE : Hid (m + 1 + leftN q (toldN W T x) ≤ q ∧ leftN q (toldN W T x) < f') := Lib.hid (by omega)
              clear HP hml hff hln TI
              go_wp2_with (at_builtin; refine wpList_appG_new wr.heap.size rfl rfl _ _ _ rfl intsT1 hu2 _ 1 rfl rfl rfl (by simp [Value.oneCell']) t1 t2 ?_; intro v9 w9 own9 gr9; have X9 := Lib.hid (T3.out v9 w9 own9 gr9); obtain ⟨A9, c9, rfl, _⟩ := X9.out.1.slice; rw [HL9.out] at X9 ⊢; clear own9 gr9)
              go_roundw
              case rel => exact ⟨dm ||| pm, by rw [← ORD.out], A9, c9, m + 1, rfl, by omega, Lib.hid ⟨f', _, _, HL9.out, TE.out.1, TE.out.2, shut_next LD.out SH.out x, NXT.out, BN.out, X9.out.1, X9.out.2⟩⟩
              case measure => simp [lenV]; omega
end Go.Proofs.Ytfnjllaaadhbbaa
