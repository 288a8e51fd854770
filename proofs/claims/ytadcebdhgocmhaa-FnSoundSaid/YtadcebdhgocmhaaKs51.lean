/- Several texts in one: UnusedSpec, FxC, HasT. -/
import Derived.Test.YtadcebdhgocmhaaKs50
import Derived.Test.YtadcebdhgocmhaaKs47
import Derived.Test.YtadcebdhgocmhaaKs45
import Derived.Test.YtadcebdhgocmhaaKs20
import Derived.Test.YtadcebdhgocmhaaKs4
import Derived.Deep.QuietTactic
import Derived.BigQuiet
namespace Go.Proofs.Ytadcebdhgocmhaa
open Go.RowKit
set_option linter.unusedVariables false


set_option maxHeartbeats 3200000 in
set_option maxRecDepth 100000 in
theorem spec_UnusedIn (p : Pg) (x : V3) (w : World) (hp : PgIs w x p) (htot : totPg p ≤ 1048576) :
    Calls Try.prog 13 #[x.val p] w fun e w' => ∃ v', e = .returned v' ∧ OwnStrs w w' v' (unuR p) := by
  have HP := Lib.hid hp
  have hpl := hp.p1
  have hpc := hp.p2
  obtain ⟨gA, gc, lA, lc, pA, pc⟩ := x
  unfold V3.val
  simp only at hpl hpc ⊢
  unfold maxLen at hpc
  clear hp
  have OE : Hid (OwnStrs w ((w.alloc (.cells #[.slice gA p.globals.length gc, .slice lA p.locks.length lc, .slice pA p.procs.length pc] 27)).alloc (.cells #[] 9)) (.slice (some ⟨w.heap.size + 1, 0, none⟩) 0 0) []) := Lib.hid (by
    have OE : OwnStrs w ((w.alloc (.cells #[.slice gA p.globals.length gc, .slice lA p.locks.length lc, .slice pA p.procs.length pc] 27)).alloc (.cells #[] 9)) (.slice (some ⟨(w.alloc (.cells #[.slice gA p.globals.length gc, .slice lA p.locks.length lc, .slice pA p.procs.length pc] 27)).heap.size, 0, none⟩) 0 0) [] := OwnStrs.empty (by repeat' (first | exact Below.refl _ _ | exact Nat.le_refl _ | (refine Below.alloc ?_ ?_ _) | (refine Below.setCell ?_ ?_ _) | (refine Below.drew ?_) | (refine below_drewN ?_ _) | assumption | (simp; done) | (simp; omega)))
    rwa [show (w.alloc (.cells #[.slice gA p.globals.length gc, .slice lA p.locks.length lc, .slice pA p.procs.length pc] 27)).heap.size = w.heap.size + 1 from by simp] at OE)
  have BE : Hid (BoxB ((w.alloc (.cells #[.slice gA p.globals.length gc, .slice lA p.locks.length lc, .slice pA p.procs.length pc] 27)).alloc (.cells #[] 9)) w.heap.size [.slice gA p.globals.length gc, .slice lA p.locks.length lc, .slice pA p.procs.length pc]) := Lib.hid (BoxB.below (BoxB.lit rfl) (Below.alloc (Below.refl _ _) (Nat.le_refl _) _))
  have p0 := BE.out 0 _ rfl
  have p1 := BE.out 1 _ rfl
  have p2 := BE.out 2 _ rfl
  cases h : okPg p with
  | false =>
    have HU := Lib.hid (unuR_no h)
    go_enter Try.func13, Try.ntmps13
    go_wp2_with fail
    refine (spec_ProgOk p ⟨gA, gc, lA, lc, pA, pc⟩ _ (HP.out.belowA OE.out.2) htot).mono ?_
    rintro e w1 ⟨rfl, b1⟩
    have O1 := Lib.hid (OE.out.below b1)
    rw [h]
    clear b1 h p0 p1 p2
    go_wp2_with fail
    go_ret
    exact ⟨_, rfl, by rw [HU.out]; exact O1.out⟩
  | true =>
  have HU := Lib.hid (unuR_uses h)
  have HH := Lib.hid h
  have hpn := (okPg_procs h).1
  have hgl := (okPg_lists h).1
  have hll := (okPg_lists h).2
  go_enter Try.func13, Try.ntmps13
  go_wp2_with fail
  refine (spec_ProgOk p ⟨gA, gc, lA, lc, pA, pc⟩ _ (HP.out.belowA OE.out.2) htot).mono ?_
  rintro e w1 ⟨rfl, b1⟩
  have O1 := Lib.hid (OE.out.below b1)
  have BX1 := Lib.hid (BE.out.below b1)
  have hz1 : w.heap.size + 1 < w1.heap.size := by have := b1.size; simp at this; omega
  have UE : Hid (OwnStrs w1 (w1.alloc (.cells #[] 9)) (.slice (some ⟨w1.heap.size, 0, none⟩) 0 0) []) := Lib.hid (OwnStrs.empty (Below.refl _ _))
  rw [h]
  clear b1 h p0 p1 p2
  go_wp2_with fail
  go_loopw [4, 5] (fun lv i wr => ∃ k : Nat, k ≤ p.procs.length ∧ i = .int .i64 k ∧ ∃ A' c', lv = .slice A' (usesP (p.procs.take k)).length c' ∧ Hid (OwnStrs w1 wr (.slice A' (usesP (p.procs.take k)).length c') (usesP (p.procs.take k)))) (fun _ i _ => p.procs.length - (intOf i).toNat)
  case atStart => exact ⟨0, Nat.zero_le _, rfl, _, _, rfl, UE⟩
  case round =>
    obtain ⟨k, hk, rfl, A', c', rfl, HO⟩ := hrel
    rename World => wq
    have BQ := Lib.hid (BX1.out.below HO.out.2)
    have p0 := BQ.out 0 _ rfl
    have p1 := BQ.out 1 _ rfl
    have p2 := BQ.out 2 _ rfl
    have hul := usesP_len p.procs k
    have htl := totPrs_take_le p.procs k
    have htp : totPrs p.procs ≤ 1048576 := by have : totPg p = totS p.globals + totS p.locks + totPrs p.procs := rfl; omega
    by_cases hlt : k < p.procs.length
    · obtain ⟨b, off, y, rfl, d0, d1, hnm, hym, _, hbc, hcm, row⟩ := rd_proc (HP.out.belowA O1.out.2).p3 hlt
      rw [hym] at d1
      replace d1 := cell_keep HO.out.2 d1
      have ROW := Lib.hid row
      have hlb := cell_lt d1
      have htb := tot_body hlt htot
      have HT := Lib.hid (usesP_take p.procs k hlt)
      have h0k : (0 : Int) ≤ (k : Int) := by omega
      clear hnm hym row d0
      go_wp2_with fail
      refine (spec_l07Uses p.procs[k].body y.A y.c w1 _ _ (usesP (p.procs.take k)) ROW.out HO.out hbc hcm (by omega) htb).mono ?_
      rintro e w2 ⟨v2, rfl, own2, kp2⟩
      have O2 : Hid (OwnStrs w1 w2 v2 (usesP (p.procs.take (k + 1)))) := Lib.hid (by rw [HT.out]; exact own2)
      obtain ⟨A2, c2, rfl, _⟩ := O2.out.slice
      clear own2 kp2 p0 p1 p2 d1
      go_wp2_with fail
      go_roundw
      case rel => exact ⟨k + 1, by omega, by go_num, A2, c2, rfl, O2⟩
      case measure => simp [intOf]; omega
    · have TK : Hid (p.procs.take k = p.procs) := Lib.hid (List.take_of_length_le (by omega))
      have PQ := Lib.hid (HP.out.belowA (below_then O1.out.2 HO.out.2))
      have C0 := Lib.hid p0
      have C1 := Lib.hid p1
      have EQ : Hid (OwnStrs wq (wq.alloc (.cells #[] 9)) (.slice (some ⟨wq.heap.size, 0, none⟩) 0 0) []) := Lib.hid (OwnStrs.empty (Below.refl _ _))
      have RG := Lib.hid PQ.out.g3
      have RL := Lib.hid PQ.out.l3
      go_wp2_with fail
      go_region_held3 (fun w' => w'.cell? ⟨w.heap.size, 0, none⟩ = some (.slice gA p.globals.length gc) ∧ w'.cell? ⟨w.heap.size, 1, none⟩ = some (.slice lA p.locks.length lc))
        (first | go_keep | exact ⟨cell_keep own3.2 C0.out, cell_keep own3.2 C1.out⟩ | exact ⟨cell_keep own2.2 C0.out, cell_keep own2.2 C1.out⟩ | exact ⟨cell_keep EQ.out.2 C0.out, cell_keep EQ.out.2 C1.out⟩)
        (first
          | (refine step_app (by rfl) _ _ _ (by rfl) strT (by rfl) (Own.drew EQ.out) gA p.globals.length gc (p.globals.map Value.string) (by rfl) (by exact (RG.out.alloc _).drew) (by intro u hu; obtain ⟨s, _, rfl⟩ := List.mem_map.1 hu; rfl) (by simp only [maxLen, List.length_nil]; omega) (by simp only [List.length_nil]; omega) ?_; intro v2 w2 own2)
          | (refine step_app (by rfl) _ _ _ (by rfl) strT (by rfl) own2 lA p.locks.length lc (p.locks.map Value.string) (by rfl) (by exact RL.out.below own2.2) (by intro u hu; obtain ⟨s, _, rfl⟩ := List.mem_map.1 hu; rfl) (by simp only [maxLen, List.length_nil]; omega) (by simp only [List.length_nil]; omega) ?_; intro v3 w3 own3))
      have O5 : Hid (OwnStrs wq w3 v3 (p.globals ++ p.locks)) := Lib.hid (by simpa [OwnStrs] using own3)
      have hal : (p.globals ++ p.locks).length ≤ 12 := by rw [List.length_append]; omega
      have U5 : Hid (OwnB w1.heap.size w3 (.slice A' (usesP p.procs).length c') (usesP p.procs)) := Lib.hid (by
        have := OwnB.of_strs (HO.out.below O5.out.2)
        rwa [TK.out] at this)
      have hts : (usesP (p.procs.take k)).length = (usesP p.procs).length := by rw [TK.out]
      rw [hts]
      have S5 := Lib.hid ((O1.out.below HO.out.2).below O5.out.2)
      have A5 := Lib.hid (OwnB.of_strs O5.out)
      obtain ⟨Aa, ca, rfl, _⟩ := O5.out.slice
      have hca := own_cap' O5.out
      unfold maxLen at hca
      have NU : Hid (∀ b, (Value.slice A' (usesP p.procs).length c').ownBlock = some b → (Value.slice (some ⟨w.heap.size + 1, 0, none⟩) 0 0).ownBlock ≠ some b) := Lib.hid (fun b hb e => by
        have h1 := (U5.out.lt b hb).1
        injection e with e
        simp only at e; omega)
      have NA : Hid (∀ b, (Value.slice Aa (p.globals ++ p.locks).length ca).ownBlock = some b → (Value.slice (some ⟨w.heap.size + 1, 0, none⟩) 0 0).ownBlock ≠ some b) := Lib.hid (fun b hb e => by
        have h1 := (A5.out.lt b hb).1
        have h2 := HO.out.2.size
        injection e with e
        simp only at e; omega)
      clear own2 own3 hts p0 p1 p2
      generalize hall : p.globals ++ p.locks = all at *
      clear hall
      go_wp2_with fail
      go_loopw [3, 7] (fun lv i wr => ∃ j : Nat, j ≤ all.length ∧ i = .int .i64 j ∧ ∃ A6 c6, lv = .slice A6 (filtU (usesP p.procs) (all.take j)).length c6 ∧ Hid (OwnStrs w wr (.slice A6 (filtU (usesP p.procs) (all.take j)).length c6) (filtU (usesP p.procs) (all.take j)) ∧ Grew (.slice (some ⟨w.heap.size + 1, 0, none⟩) 0 0) (.slice A6 (filtU (usesP p.procs) (all.take j)).length c6) w3 wr)) (fun _ i _ => all.length - (intOf i).toNat)
      case atStart => exact ⟨0, Nat.zero_le _, rfl, _, _, rfl, Lib.hid ⟨S5.out, Grew.refl _ _⟩⟩
      case round =>
        obtain ⟨j, hj, rfl, A6, c6, rfl, HF⟩ := hrel
        have hfl := filtU_len (usesP p.procs) all j
        by_cases hlt2 : j < all.length
        · obtain ⟨rb, ro, rfl, hcell⟩ := rd_str (Own.rd (A5.out.keep HF.out.2.keep NA.out).strs) hlt2
          have UI : Hid (IsStrs wr (.slice A' (usesP p.procs).length c') (usesP p.procs)) := Lib.hid (U5.out.keep HF.out.2.keep NU.out).isStrs
          have h0j : (0 : Int) ≤ (j : Int) := by omega
          have h1j : (j : Int) < (all.length : Int) := by omega
          cases hh : hasS (usesP p.procs) all[j] with
          | true =>
            have HT := Lib.hid (filtU_take_no (usesP p.procs) all j hlt2 hh)
            have HH := Lib.hid hh
            clear hh
            go_wp2_with fail
            refine (spec_l04Has _ (usesP p.procs) all[j] _ UI.out).mono ?_
            rintro e w6 ⟨rfl, rfl⟩
            rw [HH.out]
            go_wp2_with fail
            go_roundw
            case rel => exact ⟨j + 1, by omega, by go_num, A6, c6, by rw [HT.out], by rw [HT.out]; exact HF⟩
            case measure => simp [intOf]; omega
          | false =>
            have HT := Lib.hid (filtU_take_yes (usesP p.procs) all j hlt2 hh)
            have HH := Lib.hid hh
            clear hh
            go_wp2_with fail
            refine (spec_l04Has _ (usesP p.procs) all[j] _ UI.out).mono ?_
            rintro e w6 ⟨rfl, rfl⟩
            rw [HH.out]
            go_wp2_with (at_builtin; refine wpList_appG_new wr.heap.size rfl rfl _ _ _ rfl strT HF.out.1 _ 1 rfl rfl rfl (by simp [Value.oneCell']) (by simp only [maxLen]; omega) (by omega) ?_; intro v8 w8 own8 gr8; have O8 : Hid (OwnStrs w w8 v8 (filtU (usesP p.procs) (all.take (j + 1))) ∧ Grew (.slice (some ⟨w.heap.size + 1, 0, none⟩) 0 0) v8 w3 w8) := Lib.hid ⟨by rw [HT.out]; unfold OwnStrs; rw [List.length_append, ← map_snoc]; exact own8, HF.out.2.trans gr8⟩; obtain ⟨A8, c8, rfl, _⟩ := O8.out.1.slice; clear own8 gr8)
            go_roundw
            case rel => exact ⟨j + 1, by omega, by go_num, A8, c8, rfl, O8⟩
            case measure => simp [intOf]; omega
        · go_wp2_with fail
          go_ret
          have := HF.out.1
          rw [List.take_of_length_le (by omega)] at this ⊢
          exact ⟨_, rfl, by rw [HU.out]; exact this⟩

set_option maxRecDepth 100000 in
theorem pf_at {W : World} {n gb lb pc : Nat} {pA : Option Addr} {l : List Pr} {z : Int} (hn : l.length = n) (hp : PgIs W ⟨some ⟨gb, 0, none⟩, 4, some ⟨lb, 0, none⟩, 3, pA, pc⟩ ⟨glD, loN, l⟩) (ht : totPg ⟨glD, loN, l⟩ ≤ 1048576) (hz : faultR ⟨glD, loN, l⟩ = z) : Calls Try.prog 7 #[.agg #[.slice (some ⟨gb, 0, none⟩) 4 4, .slice (some ⟨lb, 0, none⟩) 3 3, .slice pA n pc]] W fun e w' => e = .returned (.int .i64 z) ∧ Below W.heap.size W w' := by
  subst hn hz; exact impl_ProgFault ⟨glD, loN, l⟩ ⟨some ⟨gb, 0, none⟩, 4, some ⟨lb, 0, none⟩, 3, pA, pc⟩ W hp ht
set_option maxRecDepth 100000 in
theorem sf_at {W : World} {n gb lb pc : Nat} {pA : Option Addr} {l : List Pr} {z : Int} (hn : l.length = n) (hp : PgIs W ⟨some ⟨gb, 0, none⟩, 4, some ⟨lb, 0, none⟩, 3, pA, pc⟩ ⟨glD, loN, l⟩) (ht : totPg ⟨glD, loN, l⟩ ≤ 1048576) (hz : faultR ⟨glD, loN, l⟩ = z) : Calls Try.prog 8 #[.agg #[.slice (some ⟨gb, 0, none⟩) 4 4, .slice (some ⟨lb, 0, none⟩) 3 3, .slice pA n pc]] W fun e w' => e = .returned (.int .i64 z) ∧ Below W.heap.size W w' := by
  subst hn hz; exact spec_ProgFault ⟨glD, loN, l⟩ ⟨some ⟨gb, 0, none⟩, 4, some ⟨lb, 0, none⟩, 3, pA, pc⟩ W hp ht
set_option maxRecDepth 100000 in
theorem iu_at {W : World} {n gb lb pc : Nat} {pA : Option Addr} {l : List Pr} {u : List ByteArray} (hn : l.length = n) (hp : PgIs W ⟨some ⟨gb, 0, none⟩, 4, some ⟨lb, 0, none⟩, 3, pA, pc⟩ ⟨glD, loN, l⟩) (ht : totPg ⟨glD, loN, l⟩ ≤ 1048576) (hz : unkR ⟨glD, loN, l⟩ = u) : Calls Try.prog 11 #[.agg #[.slice (some ⟨gb, 0, none⟩) 4 4, .slice (some ⟨lb, 0, none⟩) 3 3, .slice pA n pc]] W fun e w' => ∃ v', e = .returned v' ∧ OwnStrs W w' v' u := by
  subst hn hz; exact impl_UnknownIn ⟨glD, loN, l⟩ ⟨some ⟨gb, 0, none⟩, 4, some ⟨lb, 0, none⟩, 3, pA, pc⟩ W hp ht
set_option maxRecDepth 100000 in
theorem su_at {W : World} {n gb lb pc : Nat} {pA : Option Addr} {l : List Pr} {u : List ByteArray} (hn : l.length = n) (hp : PgIs W ⟨some ⟨gb, 0, none⟩, 4, some ⟨lb, 0, none⟩, 3, pA, pc⟩ ⟨glD, loN, l⟩) (ht : totPg ⟨glD, loN, l⟩ ≤ 1048576) (hz : unkR ⟨glD, loN, l⟩ = u) : Calls Try.prog 12 #[.agg #[.slice (some ⟨gb, 0, none⟩) 4 4, .slice (some ⟨lb, 0, none⟩) 3 3, .slice pA n pc]] W fun e w' => ∃ v', e = .returned v' ∧ OwnStrs W w' v' u := by
  subst hn hz; exact spec_UnknownIn ⟨glD, loN, l⟩ ⟨some ⟨gb, 0, none⟩, 4, some ⟨lb, 0, none⟩, 3, pA, pc⟩ W hp ht
set_option maxRecDepth 100000 in
theorem in_at {W : World} {n gb lb pc : Nat} {pA : Option Addr} {l : List Pr} {u : List ByteArray} (hn : l.length = n) (hp : PgIs W ⟨some ⟨gb, 0, none⟩, 4, some ⟨lb, 0, none⟩, 3, pA, pc⟩ ⟨glD, loN, l⟩) (ht : totPg ⟨glD, loN, l⟩ ≤ 1048576) (hz : unuR ⟨glD, loN, l⟩ = u) : Calls Try.prog 9 #[.agg #[.slice (some ⟨gb, 0, none⟩) 4 4, .slice (some ⟨lb, 0, none⟩) 3 3, .slice pA n pc]] W fun e w' => ∃ v', e = .returned v' ∧ OwnStrs W w' v' u := by
  subst hn hz; exact impl_UnusedIn ⟨glD, loN, l⟩ ⟨some ⟨gb, 0, none⟩, 4, some ⟨lb, 0, none⟩, 3, pA, pc⟩ W hp ht
set_option maxRecDepth 100000 in
theorem sn_at {W : World} {n gb lb pc : Nat} {pA : Option Addr} {l : List Pr} {u : List ByteArray} (hn : l.length = n) (hp : PgIs W ⟨some ⟨gb, 0, none⟩, 4, some ⟨lb, 0, none⟩, 3, pA, pc⟩ ⟨glD, loN, l⟩) (ht : totPg ⟨glD, loN, l⟩ ≤ 1048576) (hz : unuR ⟨glD, loN, l⟩ = u) : Calls Try.prog 13 #[.agg #[.slice (some ⟨gb, 0, none⟩) 4 4, .slice (some ⟨lb, 0, none⟩) 3 3, .slice pA n pc]] W fun e w' => ∃ v', e = .returned v' ∧ OwnStrs W w' v' u := by
  subst hn hz; exact spec_UnusedIn ⟨glD, loN, l⟩ ⟨some ⟨gb, 0, none⟩, 4, some ⟨lb, 0, none⟩, 3, pA, pc⟩ W hp ht
set_option maxRecDepth 100000 in
theorem pf5_at {W : World} {lb cc pc n : Nat} {A pA : Option Addr} {l : List Pr} {z : Int} {x : ByteArray} (hn : l.length = n) (hp : PgIs W ⟨A, cc, some ⟨lb, 0, none⟩, 3, pA, pc⟩ ⟨glD ++ [x], loN, l⟩) (ht : totPg ⟨glD ++ [x], loN, l⟩ ≤ 1048576) (hz : faultR ⟨glD ++ [x], loN, l⟩ = z) : Calls Try.prog 7 #[.agg #[.slice A 5 cc, .slice (some ⟨lb, 0, none⟩) 3 3, .slice pA n pc]] W fun e w' => e = .returned (.int .i64 z) ∧ Below W.heap.size W w' := by
  subst hn hz; exact impl_ProgFault ⟨glD ++ [x], loN, l⟩ ⟨A, cc, some ⟨lb, 0, none⟩, 3, pA, pc⟩ W hp ht
/-- a row and its block, as an append wants them -/
theorem own_of {base : Nat} {w : World} {F : Nat → Prop} {A : Option Addr} {c : Nat} {l : List St} {xs : List V8} {G : Nat → Nat → Prop} (hbw : base ≤ w.heap.size) (r : RowO w F 8 A l.length (xs.flatMap V8.cells) G) (cap : CapO w F A l.length c) (hF : ∀ b, F b → base ≤ b) : OwnX base w 36 8 (.slice A l.length c) l.length (xs.flatMap V8.cells) := by
  have rd := r.1
  have hfl : (xs.flatMap V8.cells).length = l.length * 8 := rd.1
  refine ⟨⟨hfl, ?_⟩, hbw⟩
  rcases cap with ⟨e1, e2, e3⟩ | ⟨g, cur, e1, h1, hg, h2, h3, h4⟩
  · left; rw [e1, e2, e3]; exact ⟨rfl, rfl⟩
  · right
    refine ⟨g, c, cur, by rw [e1], hF g h1, hg, h2, h3, h4, ?_⟩
    apply List.ext_getElem?
    intro j
    by_cases hj : j < l.length * 8
    · rw [List.getElem?_take, if_pos hj]
      obtain ⟨b, off, e, hc⟩ := rd.2 (by omega)
      rw [e1] at e
      injection e with e
      injection e with e2 e3
      subst e2 e3
      have hu : (xs.flatMap V8.cells)[j]? = some ((xs.flatMap V8.cells)[j]'(by omega)) := List.getElem?_eq_getElem (by omega)
      have h5 := hc j _ hu
      rw [Nat.zero_add, Lib.cell_of_heap hg] at h5
      rw [hu]
      simpa using h5
    · rw [List.getElem?_eq_none (by rw [List.length_take]; omega), List.getElem?_eq_none (by omega)]
theorem own_gl {lo : Nat} {w : World} {gb : Nat} (h1 : lo ≤ gb) (hg : w.heap[gb]? = some (.cells glA 9 (0, 0))) : OwnX lo w 9 1 (.slice (some ⟨gb, 0, none⟩) 4 4) 4 glA.toList :=
  ⟨⟨rfl, .inr ⟨gb, 4, glA, rfl, h1, hg, Nat.le_refl _, by simp [maxLen], rfl, rfl⟩⟩, by have := lt_of_block hg; omega⟩
theorem own_slot {w0 w : World} {e : TypeId} {sz n : Nat} {v : Value} {xs : List Value} (h : Own w0 w e sz v (n + 1) xs) : ∃ g c, v = .slice (some ⟨g, 0, none⟩) (n + 1) c ∧ w0.heap.size ≤ g ∧ ∃ cur, w.heap[g]? = some (.cells cur e (0, 0)) := by
  rcases h.1.2 with ⟨_, h2⟩ | ⟨g, cap, cur, h1, hb, hg, _⟩
  · omega
  · exact ⟨g, cap, h1, hb, cur, hg⟩
theorem ownS_is {w0 w : World} {v : Value} {ss : List ByteArray} (h : OwnStrs w0 w v ss) : IsStrs w v ss := by
  obtain ⟨A, c, rfl, hc⟩ := Own.slice h
  exact ⟨A, c, rfl, hc, own_cap' h, Own.rd h⟩
theorem slots8 {w0 w : World} {e : TypeId} {g c n : Nat} {xs : List Value} (h : Own w0 w e 8 (.slice (some ⟨g, 0, none⟩) (n + 1) c) (n + 1) xs) : ∀ r, r < 8 → (∃ y, w.cell? ⟨g, n * 8 + r, none⟩ = some y) ∧ w.frozen? ⟨g, n * 8 + r, none⟩ = false := fun r hr => by
  have hl := h.1.1
  exact ⟨⟨_, h.cellAt (j := n * 8 + r) (by omega) (List.getElem?_eq_getElem (by omega))⟩, h.freeAt _⟩
theorem put8_other {w : World} {g o b : Nat} (x : V8) (h : b ≠ g) : (put8 w g o x).heap[b]? = w.heap[b]? := by
  unfold put8
  rw [Below.heap_setCell _ _ _ _ h, Below.heap_setCell _ _ _ _ h, Below.heap_setCell _ _ _ _ h, Below.heap_setCell _ _ _ _ h, Below.heap_setCell _ _ _ _ h, Below.heap_setCell _ _ _ _ h, Below.heap_setCell _ _ _ _ h, Below.heap_setCell _ _ _ _ h]
theorem put8_keepS {S : Nat → Prop} {w w' : World} {g o : Nat} (x : V8) (h : Keep S w w') (hg : ¬ S g) : Keep S w (put8 w' g o x) :=
  (((((((h.setCell (p := ⟨g, o, none⟩) hg _).setCell (p := ⟨g, o + 1, none⟩) hg _).setCell (p := ⟨g, o + 2, none⟩) hg _).setCell (p := ⟨g, o + 3, none⟩) hg _).setCell (p := ⟨g, o + 4, none⟩) hg _).setCell (p := ⟨g, o + 5, none⟩) hg _).setCell (p := ⟨g, o + 6, none⟩) hg _).setCell (p := ⟨g, o + 7, none⟩) hg _
theorem sets_last (xs ys : List V8) (z y : V8) : sets (xs.flatMap V8.cells ++ z.cells) (xs.length * 8) y.cells = xs.flatMap V8.cells ++ y.cells := by
  have hl : (xs.flatMap V8.cells).length = xs.length * 8 := flat_length V8.cells 8 v8_len xs
  have := sets_append_right (xs.flatMap V8.cells) z.cells y.cells 0
  rw [hl, Nat.add_zero] at this
  rw [this]
  have h2 := sets_front z.cells [] y.cells rfl
  rw [List.append_nil, List.append_nil] at h2
  rw [h2]

set_option maxHeartbeats 400000 in
theorem laws_hasTextS (v : Value) (ss : List ByteArray) (x : ByteArray) (w : World) (h : IsStrs w v ss) : Calls Try.prog 14 #[v, .string x] w fun e w' => e = .returned (.bool (hasS ss x)) ∧ w = w' := by
  obtain ⟨A, c, rfl, h2, h3, rd⟩ := h
  unfold maxLen at h3
  have RD := Lib.hid rd
  clear rd
  go_enter Try.func14, Try.ntmps14
  go_wp2_with fail
  go_loopw [5] (fun i wr => ∃ j : Nat, j ≤ ss.length ∧ i = .int .i64 j ∧ wr = w ∧ Hid (∀ y ∈ ss.take j, y ≠ x)) (fun i _ => ss.length - (intOf i).toNat)
  case atStart => exact ⟨0, Nat.zero_le _, rfl, rfl, Lib.hid (by simp)⟩
  case round =>
    obtain ⟨j, hj, rfl, rfl, HT⟩ := hrel
    by_cases hlt : j < ss.length
    · obtain ⟨b, off, rfl, hcell⟩ := rd_str RD.out hlt
      have h0k : (0 : Int) ≤ (j : Int) := by omega
      have h1k : (j : Int) < (ss.length : Int) := by omega
      have q := str_eq ss[j] x
      by_cases e : ss[j] = x
      · have HA := Lib.hid (hasS_at hlt e)
        rw [decide_eq_true e] at q
        clear e
        go_wp2_with fail
        go_ret
        exact ⟨ret_bool HA.out.symm, rfl⟩
      · have HE := Lib.hid e
        rw [decide_no e] at q
        clear e
        go_wp2_with fail
        go_roundw
        case rel => exact ⟨j + 1, by omega, by go_num, (by first | rfl | trivial), Lib.hid (take_all_succ HT.out hlt HE.out)⟩
        case measure => simp [intOf]; omega
    · have HA := Lib.hid (hasS_no (by have := HT.out; rwa [List.take_of_length_le (by omega)] at this))
      go_wp2_with fail
      go_ret
      exact ⟨ret_bool HA.out.symm, rfl⟩
set_option maxHeartbeats 400000 in
theorem laws_sameTextsS (v u : Value) (ss : List ByteArray) (w : World) (h : IsStrs w v ss) (h' : IsStrs w u ss) :
    Calls Try.prog 10 #[v, u] w fun e w' => e = .returned (.bool true) ∧ Qt w w' := by
  obtain ⟨A, c, rfl, h2, h3, rd⟩ := h
  obtain ⟨A', c', rfl, h2', h3', rd'⟩ := h'
  unfold maxLen at h3 h3'
  have RD := Lib.hid rd
  have RD' := Lib.hid rd'
  clear rd rd'
  have g1 : ((ss.length : Int) != (ss.length : Int)) = false := by simp
  go_enter Try.func10, Try.ntmps10
  go_wp2_with fail
  go_loopw [5] (fun i wr => ∃ (k m : Nat), k ≤ ss.length ∧ i = .int .i64 k ∧ wr = w.drewN m) (fun i _ => ss.length - (intOf i).toNat)
  case atStart => exact ⟨0, 0, Nat.zero_le _, rfl, rfl⟩
  case round =>
    obtain ⟨k, m, hk, rfl, rfl⟩ := hrel
    by_cases hlt : k < ss.length
    · obtain ⟨b, off, rfl, hcell⟩ := rd_str RD.out hlt
      obtain ⟨b', off', rfl, hcell'⟩ := rd_str RD'.out hlt
      have h0k : (0 : Int) ≤ (k : Int) := by omega
      have h1k : (k : Int) < (ss.length : Int) := by omega
      have q := str_eq ss[k] ss[k]
      rw [decide_eq_true rfl] at q
      go_wp2_with fail
      go_quiet (fail)
      go_wp2_with fail
      go_roundw
      case rel => exact ⟨k + 1, _, by omega, by go_num, rfl⟩
      case measure => simp [intOf]; omega
    · go_wp2_with fail
      go_ret
      exact ⟨rfl, Qt.of_drewN _ _⟩
end Go.Proofs.Ytadcebdhgocmhaa
