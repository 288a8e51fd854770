/- The law FnFigures. -/
import Derived.Test.YtbfiofakcgblaaaDoorFigures
import Derived.Deep.CutRange
import Derived.Deep.QuietTactic
import Derived.BigQuiet
namespace Go.Proofs.YtbfiofakcgblaaaDoor
open Go.RowKit
set_option linter.unusedVariables false

theorem cells_old {W w1 : World} (hb : Below W.heap.size W w1) : ∀ b o, b < W.heap.size → w1.cell? ⟨b, o, none⟩ = W.cell? ⟨b, o, none⟩ := fun b o h => hb.cell (p := ⟨b, o, none⟩) h
theorem quiet_pure {P : Program} {f : FuncId} {args : Array Value} {w : World} {n : Nat} {v : Value} (h : Calls P f args (w.drewN n) fun e w' => e = .returned v ∧ w.drewN n = w') : Calls P f args (w.drewN n) fun e w'' => e = .returned v ∧ ∃ m, w'' = w.drewN m :=
  Calls.quiet_of (h.mono fun _ _ ⟨he, hw⟩ => ⟨he, by subst hw; exact Qt.refl _⟩)
set_option maxHeartbeats 6400000 in
set_option maxRecDepth 100000 in
theorem law_Figures (v : Value) (code : List UInt8) (w : World) (o : ∃ A c, v = .slice A code.length c ∧ code.length ≤ c ∧ c ≤ maxLen ∧ Rd w 1 A code.length (bv code)) (tab : TabW w) :
    Calls Tryd.prog 5 #[v] w fun e w' => e = .returned (.bool true) ∧ Below w.heap.size w w' := by
  obtain ⟨A, c, rfl, hl, hc, rd⟩ := o
  have RD := Lib.hid rd
  have TB := Lib.hid tab
  clear rd tab
  by_cases hb : 1048576 < code.length
  · go_enter Tryd.func5, Tryd.ntmps5
    go_wp2_with fail
    refine (big_yes A code.length c _ hb).mono ?_
    rintro e w1 ⟨rfl, rfl⟩
    go_wp2_with fail
    go_ret
    exact ⟨rfl, Below.refl _ _⟩
  obtain ⟨p0, p1, p2, p3, p4, p5, p6, p7, ⟨a0, a1⟩, ⟨b0, b1⟩, ⟨c0, c1⟩, ⟨d0, d1⟩, ⟨e0, e1⟩, ⟨f0, f1⟩, ⟨g0, g1⟩, ⟨i0, i1⟩, dp⟩ := draw_places8 A c code (by omega) hc
  have DP := Lib.hid dp
  clear dp
  go_enter Tryd.func5, Tryd.ntmps5
  go_wp2_with fail
  refine (big_no A code.length c _ hb).mono ?_
  rintro e w0 ⟨rfl, rfl⟩
  go_wp2_with fail
  refine (DP.out _ RD.out).mono ?_
  rintro e w1 ⟨b, off, cp, rfl, ⟨h0, h1, h2, h3, h4, h5, h6, h7⟩, k1⟩
  have B1 := Lib.hid k1
  clear k1 DP RD
  go_upto_region 4 with fail
  obtain ⟨m6, hm6⟩ : ∃ m : UInt8, (m.toNat : Int) = IntKind.u8.wrap p6 := ⟨UInt8.ofNat (p6 % 256).toNat, by rw [IntKind.wrap_u8, UInt8.toNat_ofNat']; omega⟩
  obtain ⟨m7, hm7⟩ : ∃ m : UInt8, (m.toNat : Int) = IntKind.u8.wrap p7 := ⟨UInt8.ofNat (p7 % 256).toNat, by rw [IntKind.wrap_u8, UInt8.toNat_ofNat']; omega⟩
  have cv : ∀ (wx : World) (g : Nat), wx.cell? ⟨g, 0, none⟩ = some (.int .u8 (IntKind.u8.wrap p6)) → wx.cell? ⟨g, 1, none⟩ = some (.int .u8 (IntKind.u8.wrap p7)) → (convert 27 9 (.slice (some ⟨g, 0, none⟩) 2 2)).run Tryd.prog wx = .ok (.string ⟨[m6, m7].toArray⟩) wx := fun wx g x6 x7 =>
    str_run (l := [m6, m7]) 2 ⟨rfl, fun _ => ⟨g, 0, rfl, fun j u hu => by
      rcases (show j = 0 ∨ j = 1 ∨ 2 ≤ j by omega) with rfl | rfl | hj
      · simp only [bv, List.map_cons, List.map_nil, List.getElem?_cons_zero, Option.some.injEq, hm6, hm7] at hu
        rw [← hu]; exact x6
      · simp only [bv, List.map_cons, List.map_nil, List.getElem?_cons_succ, List.getElem?_cons_zero, Option.some.injEq, hm6, hm7] at hu
        rw [← hu]; exact x7
      · rw [List.getElem?_eq_none (by simp [bv]; omega)] at hu; cases hu⟩⟩
  have DC : Hid (∀ w', Below w1.heap.size w1 w' → Calls Tryd.prog 7 #[.int .i64 p5] w' fun e w'' => e = .returned (.string ⟨(Lib.itoa p5).toArray⟩) ∧ Below w'.heap.size w' w'') := Lib.hid (fun w' hb => impl_Decimal p5 (by omega) (by omega) w' (TB.out.below (below_then B1.out hb)))
  have hil := Lib.itoa_length_le p5 (by omega) (by omega)
  generalize Lib.itoa p5 = L at *
  have hij : ¬ 9223372036854775807 < L.length + 2 := by omega
  have ST : Hid ((⟨L.toArray⟩ : ByteArray) ++ ⟨#[m6, m7]⟩ = ⟨(L ++ [m6, m7]).toArray⟩) := Lib.hid (by apply str_ext; simp)
  go_cut [4] from 17 to 31 (fun v wx => v = .string ⟨(L ++ [m6, m7]).toArray⟩ ∧ Hid (Below w1.heap.size w1 wx))
  case first =>
    have hbl : b < w1.heap.size := cell_lt h5
    have hbl2 : b < w1.heap.size + 1 := by omega
    have DD : Hid (∀ w', Below w1.heap.size w1 w' → Calls Tryd.prog 7 #[.int .i64 p5] w' fun e w'' => e = .returned (.string ⟨L.toArray⟩) ∧ Below w'.heap.size w' w'' ∧ Below w1.heap.size w1 w'') := Lib.hid (fun w' hb => (DC.out w' hb).mono fun e w'' ⟨h1, h2⟩ => ⟨h1, h2, below_then hb h2⟩)
    clear DC
    have AN : Hid (∀ (wx : World), Below (w1.heap.size + 1) (w1.alloc (.cells #[.int .u8 (IntKind.u8.wrap p6), .int .u8 (IntKind.u8.wrap p7)] 5)) wx → wx.cell? ⟨w1.heap.size, 0, none⟩ = some (.int .u8 (IntKind.u8.wrap p6)) ∧ wx.cell? ⟨w1.heap.size, 1, none⟩ = some (.int .u8 (IntKind.u8.wrap p7))) := Lib.hid (fun wx hb => by
      constructor
      · rw [hb.cell (p := ⟨w1.heap.size, 0, none⟩) (by simp), World.cell?_alloc_new]; rfl
      · rw [hb.cell (p := ⟨w1.heap.size, 1, none⟩) (by simp), World.cell?_alloc_new]; rfl)
    go_region_with (first | (go_at_call 7; refine (DD.out _ (by repeat' (first | exact Below.refl _ _ | exact Nat.le_refl _ | (refine Below.alloc ?_ ?_ _) | (refine Below.setCell ?_ ?_ _) | (refine Below.drew ?_) | (refine below_drewN ?_ _) | assumption | (simp; done) | (simp; omega)))).mono ?_; rintro e wX ⟨rfl, bX, cX⟩; have x5 := cell_keep cX h5; have x6 := cell_keep cX h6; have x7 := cell_keep cX h7; have CX := Lib.hid cX; (try have y0 := (AN.out wX ⟨bX.os, bX.tape, bX.output, by simpa using bX.size, fun k hk => bX.block k (by simpa using hk)⟩).1); (try have y1 := (AN.out wX ⟨bX.os, bX.tape, bX.output, by simpa using bX.size, fun k hk => bX.block k (by simpa using hk)⟩).2); clear bX cX))
    all_goals
      go_wp2_with fail
      go_meet
      exact ⟨by rw [← ST.out], Lib.hid (by first | exact CX.out | exact CX.out.drew | exact CX.out.alloc CX.out.size _ | exact (CX.out.alloc CX.out.size _).drew)⟩
  obtain ⟨rfl, BC⟩ := hcut
  have h0c := cell_keep BC.out h0
  have h1c := cell_keep BC.out h1
  have h2c := cell_keep BC.out h2
  have h3c := cell_keep BC.out h3
  have h4c := cell_keep BC.out h4
  have BW := Lib.hid (below_then B1.out BC.out)
  clear h0 h1 h2 h3 h4 h5 h6 h7 cv DC ST BC B1 hm6 hm7
  have hTl : (L ++ [m6, m7]).length ≤ 23 := by rw [List.length_append]; simp; omega
  obtain ⟨T, hT⟩ : ∃ T : ByteArray, T = ⟨(L ++ [m6, m7]).toArray⟩ := ⟨_, rfl⟩
  have hTs : T.size = (L ++ [m6, m7]).length := by rw [hT]; exact str_size _
  have hTd : T.data.toList = L ++ [m6, m7] := by rw [hT]
  rw [← hT]
  have HH : Hid (unhexR (hexL T.data.toList) = (T.data.toList, true)) := Lib.hid (unhexR_hex _ (by rw [hTd]; omega))
  have hHl := hexL_length T.data.toList
  rw [size_list] at hHl
  have hT20 : T.size ≤ 20000 := by omega
  clear hT hTd hTs hTl hij hil
  go_wp2_with fail
  refine (impl_Hex T _ hT20).mono ?_
  rintro e w2 ⟨rfl, k2⟩
  obtain ⟨H, hH⟩ : ∃ H : ByteArray, H = ⟨(hexL T.data.toList).toArray⟩ := ⟨_, rfl⟩
  have hHd : H.data.toList = hexL T.data.toList := by rw [hH]
  have hHs : H.size = 2 * T.size := by rw [hH, str_size]; exact hHl
  rw [← hH]
  have g0c := cell_keep k2 h0c
  have g1c := cell_keep k2 h1c
  have g2c := cell_keep k2 h2c
  have g3c := cell_keep k2 h3c
  have g4c := cell_keep k2 h4c
  have B2 := Lib.hid (below_then BW.out k2)
  have HD := Lib.hid hHd
  clear k2 h0c h1c h2c h3c h4c BW hH hHd hHl
  go_wp2_with fail
  refine (impl_Unhex H _ (by omega)).mono ?_
  rintro e w3 ⟨rfl, k3⟩
  have h0c := cell_keep k3 g0c
  have h1c := cell_keep k3 g1c
  have h2c := cell_keep k3 g2c
  have h3c := cell_keep k3 g3c
  have h4c := cell_keep k3 g4c
  have B3 := Lib.hid (below_then B2.out k3)
  rw [HD.out, HH.out]
  have hst := str_of_data T
  simp only [hst]
  clear k3 g0c g1c g2c g3c g4c B2 HD HH hst
  go_wp2_with fail
  go_quiet (fail)
  have g0c : (w3.drewN nq).cell? ⟨b, off, none⟩ = some (.int .i64 p0) := h0c
  have g2c : (w3.drewN nq).cell? ⟨b, off + 2, none⟩ = some (.int .i64 p2) := h2c
  have g3c : (w3.drewN nq).cell? ⟨b, off + 3, none⟩ = some (.int .i64 p3) := h3c
  have g4c : (w3.drewN nq).cell? ⟨b, off + 4, none⟩ = some (.int .i64 p4) := h4c
  have B4 := Lib.hid (below_drewN B3.out nq)
  clear h0c h1c h2c h3c h4c B3
  generalize w3.drewN nq = w4 at *
  have hn0 : 0 ≤ p0 * 10000 + p1 := by omega
  have hn1 : p0 * 10000 + p1 ≤ 1000000000 := by omega
  have RI := Lib.hid (read_itoa hn0 hn1)
  generalize p0 * 10000 + p1 = n at *
  go_wp2_with fail
  refine (impl_Decimal n (by omega) (by omega) _ (TB.out.below B4.out)).mono ?_
  rintro e w5 ⟨rfl, k5⟩
  have h2c := cell_keep k5 g2c
  have h3c := cell_keep k5 g3c
  have h4c := cell_keep k5 g4c
  have B5 := Lib.hid (below_then B4.out k5)
  clear k5 g0c g2c g3c g4c B4
  go_wp2_with fail
  refine (impl_ReadDecimal ⟨(Lib.itoa n).toArray⟩ _ (TB.out.below B5.out)).mono ?_
  rintro e w6 ⟨rfl, k6⟩
  have g2c := cell_keep k6 h2c
  have g3c := cell_keep k6 h3c
  have g4c := cell_keep k6 h4c
  have B6 := Lib.hid (below_then B5.out k6)
  rw [RI.out]
  clear k6 h2c h3c h4c B5 RI
  obtain ⟨x, hx⟩ : ∃ x, brought (p2 - 5000) (-p3) p4 = x := ⟨_, rfl⟩
  obtain ⟨r1, r2, r3⟩ := brought_in (n := p2 - 5000) (l := -p3) (m := p4) (by omega)
  rw [hx] at r1 r2 r3
  have QB : Hid (∀ w', Calls Tryd.prog 14 #[.int .i64 (p2 - 5000), .int .i64 (-p3), .int .i64 p4] w' fun e w'' => e = .returned (.int .i64 x) ∧ w' = w'') := Lib.hid (fun w' => by have := impl_Brought (p2 - 5000) (-p3) p4 w'; rwa [hx] at this)
  have QC : Hid (∀ w', Calls Tryd.prog 14 #[.int .i64 x, .int .i64 (-p3), .int .i64 p4] w' fun e w'' => e = .returned (.int .i64 x) ∧ w' = w'') := Lib.hid (fun w' => by have := impl_Brought x (-p3) p4 w'; rwa [r3] at this)
  clear hx r3
  go_wp2_with fail
  go_quiet ((first | (go_at_call 14; exact quiet_pure (QB.out _))))
  have h3c : (w6.drewN nq).cell? ⟨b, off + 3, none⟩ = some (.int .i64 p3) := g3c
  have h4c : (w6.drewN nq).cell? ⟨b, off + 4, none⟩ = some (.int .i64 p4) := g4c
  have B7 := Lib.hid (below_drewN B6.out nq)
  clear g2c g3c g4c B6
  generalize w6.drewN nq = w7 at *
  have q1 := str_eq T T
  rw [decide_eq_true rfl] at q1
  have q2 : ((H.size : Int) == 2 * (T.size : Int)) = true := by rw [beq_iff_eq]; omega
  have q3 : (n == n) = true := by simp
  have q4 : (x == x) = true := by simp
  clear hHs
  go_wp2_with fail
  go_quiet ((first | (go_at_call 14; exact quiet_pure (QC.out _))))
  go_wp2_with fail
  go_ret
  exact ⟨rfl, below_drewN B7.out _⟩
end Go.Proofs.YtbfiofakcgblaaaDoor
