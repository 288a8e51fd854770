/- Several texts in one: FxLaw. -/
import Derived.Test.YtadcebdhgocmhaaKs51
import Derived.Test.YtadcebdhgocmhaaKs20
import Derived.Deep.RegionHeld3
import Derived.Deep.CutRange
namespace Go.Proofs.Ytadcebdhgocmhaa
open Go.RowKit
set_option linter.unusedVariables false


theorem snodess_length (l : List St) : l.length ≤ snodess l := by
  induction l with
  | nil => simp
  | cons g r ih => obtain ⟨k, s, t, b, e⟩ := g; rw [snodess, snodes, List.length_cons]; omega
set_option maxHeartbeats 6400000 in
set_option maxRecDepth 100000 in
theorem law_Sound (v : Value) (code : List UInt8) (w : World) (o : ∃ A c, v = .slice A code.length c ∧ code.length ≤ c ∧ c ≤ maxLen ∧ Rd w 1 A code.length (bv code)) :
    Calls Try.prog 3 #[v] w fun e w' => e = .returned (.bool true) ∧ Below w.heap.size w w' := by
  obtain ⟨A, c, rfl, hcl, hc, rd⟩ := o
  have RD := Lib.hid rd
  clear rd
  by_cases hb : 1048576 < code.length
  · go_enter Try.func3, Try.ntmps3
    go_wp2_with fail
    refine (big_yes A code.length c _ hb).mono ?_
    rintro e w1 ⟨rfl, rfl⟩
    go_wp2_with fail
    go_ret
    exact ⟨rfl, Below.refl _ _⟩
  have DR : Hid (∀ W, Below w.heap.size w W → Calls Try.prog 6 #[.slice A code.length c] W (RetDp W (drawnP code).procs)) := Lib.hid fun W bw => spec_DrawProg A c code W (RD.out.below bw) (by omega) hc
  obtain ⟨q0, q1, rest, ns, hL, hr, hns, h0, hpn, hgood⟩ := drawn_parts code
  have Z := drawn_zero hr hns h0 hpn hgood
  have M4 := drawn_main hr hns hpn hgood
  have T2 := drawn_twice hr hgood
  have SZ := drawn_sizes hr hgood
  have HZ : Hid (unkR ⟨glD, loN, (drawnP code).procs⟩ = [] ∧ faultR ⟨glD, loN, (drawnP code).procs⟩ = 0 ∧ totPg ⟨glD, loN, (drawnP code).procs⟩ ≤ 1048576) := Lib.hid (by rw [hL]; exact ⟨Z.1, Z.2, SZ.1⟩)
  have HT : Hid (faultR ⟨glD ++ [(⟨#[120]⟩ : ByteArray)], loN, (drawnP code).procs⟩ = 2 ∧ totPg ⟨glD ++ [(⟨#[120]⟩ : ByteArray)], loN, (drawnP code).procs⟩ ≤ 1048576) := Lib.hid (by rw [hL]; exact ⟨T2, SZ.2.2.1⟩)
  have hlen : (drawnP code).procs.length = rest.length + 2 := by rw [hL]; simp
  have hl0 : 0 < (drawnP code).procs.length := by omega
  have hl1 : 1 < (drawnP code).procs.length := by omega
  have hl4 : (drawnP code).procs.length ≤ 4 := by omega
  have EM : (drawnP code).procs.set 0 ⟨otherB, ((drawnP code).procs[0]'hl0).body⟩ = ⟨otherB, q0.body⟩ :: q1 :: rest := by simp [hL]
  have EQ : (drawnP code).procs.set 1 ⟨((drawnP code).procs[1]'hl1).name, ((drawnP code).procs[1]'hl1).body ++ [lockS nopeB]⟩ = q0 :: ⟨q1.name, q1.body ++ [lockS nopeB]⟩ :: rest := by simp [hL]
  have HM : Hid (faultR ⟨glD, loN, (drawnP code).procs.set 0 ⟨otherB, ((drawnP code).procs[0]'hl0).body⟩⟩ = 4 ∧ totPg ⟨glD, loN, (drawnP code).procs.set 0 ⟨otherB, ((drawnP code).procs[0]'hl0).body⟩⟩ ≤ 1048576) := Lib.hid (by rw [EM]; exact ⟨M4, SZ.2.1⟩)
  have NF := nope_fault hr hns h0 hpn
  have HQ : Hid ((unkR ⟨glD, loN, (drawnP code).procs.set 1 ⟨((drawnP code).procs[1]'hl1).name, ((drawnP code).procs[1]'hl1).body ++ [lockS nopeB]⟩⟩ = [] ∧ faultR ⟨glD, loN, (drawnP code).procs.set 1 ⟨((drawnP code).procs[1]'hl1).name, ((drawnP code).procs[1]'hl1).body ++ [lockS nopeB]⟩⟩ ≠ 3) ∨ (0 < (unkR ⟨glD, loN, (drawnP code).procs.set 1 ⟨((drawnP code).procs[1]'hl1).name, ((drawnP code).procs[1]'hl1).body ++ [lockS nopeB]⟩⟩).length ∧ hasS (unkR ⟨glD, loN, (drawnP code).procs.set 1 ⟨((drawnP code).procs[1]'hl1).name, ((drawnP code).procs[1]'hl1).body ++ [lockS nopeB]⟩⟩) nopeB = true ∧ faultR ⟨glD, loN, (drawnP code).procs.set 1 ⟨((drawnP code).procs[1]'hl1).name, ((drawnP code).procs[1]'hl1).body ++ [lockS nopeB]⟩⟩ = 3)) := Lib.hid (by rw [EQ]; exact NF)
  have HQT : Hid (totPg ⟨glD, loN, (drawnP code).procs.set 1 ⟨((drawnP code).procs[1]'hl1).name, ((drawnP code).procs[1]'hl1).body ++ [lockS nopeB]⟩⟩ ≤ 1048576) := Lib.hid (by rw [EQ]; exact SZ.2.2.2)
  have HBL : Hid (((drawnP code).procs[1]'hl1).body.length ≤ 60) := Lib.hid (by
    have hm := hgood q1 (by simp)
    have e : ((drawnP code).procs[1]'hl1) = q1 := by simp [hL]
    rw [e]
    have := hm.few
    have := snodess_length q1.body
    omega)
  clear EM EQ Z M4 T2 NF SZ hlen hL hr hns h0 hpn hgood
  generalize hLL : (drawnP code).procs = L at *
  clear hLL
  obtain ⟨QP, hqp⟩ : ∃ q, q = L.set 1 ⟨L[1].name, L[1].body ++ [lockS nopeB]⟩ := ⟨_, rfl⟩
  obtain ⟨MP, hmp⟩ : ∃ q, q = L.set 0 ⟨otherB, (L[0]'hl0).body⟩ := ⟨_, rfl⟩
  rw [← hqp] at HQ HQT
  rw [← hmp] at HM
  have HQP := Lib.hid hqp
  have HMP := Lib.hid hmp
  clear hqp hmp
  go_enter Try.func3, Try.ntmps3
  go_wp2_with fail
  refine (big_no A code.length c _ hb).mono ?_
  rintro e w0 ⟨rfl, rfl⟩
  go_wp2_with fail
  refine (DR.out _ (Below.refl _ _)).mono ?_
  rintro e w1 ⟨gb1, lb1, b01, pA1, pc1, rfl, hc1, hd1, dp1, bw1⟩
  have I1 := Lib.hid (dp1.is hc1 hd1)
  have B1 := Lib.hid bw1
  have hz01 := bw1.size
  clear dp1 bw1
  go_wp2_with fail
  refine (DR.out _ (B1.out.alloc (by have := B1.out.size; omega) _)).mono ?_
  rintro e w2 ⟨gb2, lb2, b02, pA2, pc2, rfl, hc2, hd2, dp2, bw2⟩
  have BX1 : Hid (BoxB w2 w1.heap.size [.slice (some ⟨gb1, 0, none⟩) 4 4, .slice (some ⟨lb1, 0, none⟩) 3 3, .slice pA1 L.length pc1]) := Lib.hid (BoxB.below (BoxB.lit rfl) bw2)
  have b12 : Below w1.heap.size w1 w2 := (Below.alloc (Below.refl _ _) (Nat.le_refl _) _).trans (bw2.mono (by simp))
  have B2 := Lib.hid (below_then B1.out b12)
  have B12 := Lib.hid b12
  have DP2 := Lib.hid dp2
  have hz12 : w1.heap.size < w2.heap.size := by have := bw2.size; simp at this; omega
  have hz02 := B2.out.size
  clear dp2 bw2 b12 B1
  -- the second procedure's body
  obtain ⟨cs, G, hat⟩ := DP2.out.hp
  have hcs : 1 < cs.length := by have := hat.len; omega
  obtain ⟨x, hx, hpo, hcap⟩ := hat.is 1 hl1 hcs
  obtain ⟨pb, hpb⟩ : ∃ pb, pA2 = some ⟨pb, 0, none⟩ := by
    rcases hat.ow.1.2 with ⟨h, h'⟩ | ⟨g, cap, cur, h, _⟩
    · omega
    · injection h with h; exact ⟨g, h⟩
  subst hpb
  obtain ⟨xs_, xA, xm, xc⟩ := x
  obtain ⟨p1, p2, p3, p4, p5, p6⟩ := hpo
  simp only at p1 p2 p3 p4 p5 p6 hcap
  subst p2
  have c3 : w2.cell? ⟨pb, 3, none⟩ = some (.slice xA L[1].body.length xc) := by
    have := hat.cell (k := 1) (j := 1) hcs (by decide) (by rw [hx, v2_len]; decide)
    rw [this]; simp [hx, V2.cells]
  have HAT := Lib.hid hat
  have HXC := Lib.hid hx
  have P6 := Lib.hid p6
  have HCAP := Lib.hid hcap
  have hpbl : pb < w2.heap.size := cell_lt c3
  have hbl := HBL.out
  have PPB : Hid (∃ cur e, w2.heap[pb]? = some (.cells cur e (0, 0))) := Lib.hid (by
    rcases hat.ow.1.2 with ⟨h, h'⟩ | ⟨g, cap, cur, h, _, hg, _⟩
    · omega
    · injection h with h; injection h with h; injection h with h _; subst h; exact ⟨cur, _, hg⟩)
  have hl1' : (1 : Int) < (L.length : Int) := by omega
  clear hat hx p1 p6 hcap
  go_wp2_with fail
  go_cut [15] from 8 (fun v15 wx => ∃ bb : Bool, v15 = .bool bb ∧ Hid (Below w2.heap.size w2 wx ∧ BoxB wx w2.heap.size [.slice (some ⟨gb2, 0, none⟩) 4 4, .slice (some ⟨lb2, 0, none⟩) 3 3, .slice (some ⟨pb, 0, none⟩) L.length pc2] ∧ w2.heap.size < wx.heap.size))
  case first =>
    go_region
    all_goals go_wp2_with fail
    all_goals go_meet
    all_goals exact ⟨_, rfl, Lib.hid ⟨(by repeat' (first | exact Below.refl _ _ | exact Nat.le_refl _ | (refine Below.alloc ?_ ?_ _) | (refine Below.setCell ?_ ?_ _) | (refine Below.drew ?_) | (refine below_drewN ?_ _) | assumption | (simp; done) | (simp; omega))), BoxB.below (BoxB.lit rfl) (by repeat' (first | exact Below.refl _ _ | exact Nat.le_refl _ | (refine Below.alloc ?_ ?_ _) | (refine Below.setCell ?_ ?_ _) | (refine Below.drew ?_) | (refine below_drewN ?_ _) | assumption | (simp; done) | (simp; omega))), by simp; omega⟩⟩
  case rest =>
    obtain ⟨bb, rfl, HC1⟩ := hcut
    obtain ⟨bW, bX2, hzW⟩ := HC1.out
    generalize wc = W at *
    have BW := Lib.hid bW
    have BX2 := Lib.hid bX2
    clear bW bX2 HC1
    go_upto_if 15 with fail
    go_cut [3] from 8 (fun v3 wx => v3 = .pointer (some ⟨w1.heap.size, 0, none⟩) ∧ Hid (W.heap.size ≤ wx.heap.size ∧ wx.os = W.os ∧ wx.tape = W.tape ∧ wx.output = W.output ∧ (∀ b, b < W.heap.size → b ≠ pb → (Value.slice xA L[1].body.length xc).ownBlock ≠ some b → wx.heap[b]? = W.heap[b]?) ∧ PrRow wx (some ⟨pb, 0, none⟩) QP))
    case first =>
      have HATW : Hid (GrwAt PrG 31 2 b02 (fun _ => False) W (.slice (some ⟨pb, 0, none⟩) L.length pc2) L cs G) := Lib.hid (HAT.out.keep PrG.keepP (Keep.of_below (S := fun _ => True) BW.out) (fun _ _ _ _ => trivial))
      have kW : ∀ b, G 1 b → W.heap[b]? = w2.heap[b]? := fun b hb => BW.out.block b (HAT.out.mem 1 b hl1 hb).2.1
      have CAPW := Lib.hid (HCAP.out.keep kW)
      obtain ⟨xs, GB, hxl, rr, hxs⟩ := stRowO_to (P6.out.keep kW)
      have RRW := Lib.hid rr
      have HXS := Lib.hid hxs
      have HXL := Lib.hid hxl
      have hb02 : b02 ≤ W.heap.size := by have := HATW.out.ow.2; exact this
      have OWB := Lib.hid (own_of hb02 rr CAPW.out (fun b hb => (HAT.out.mem 1 b hl1 hb).1))
      have c3W : W.cell? ⟨pb, 3, none⟩ = some (.slice xA L[1].body.length xc) := (BW.out.cell (p := ⟨pb, 3, none⟩) hpbl).trans c3
      have c2W : W.cell? ⟨w2.heap.size, 2, none⟩ = some (.slice (some ⟨pb, 0, none⟩) L.length pc2) := BX2.out 2 _ rfl
      have hpbW : pb < W.heap.size := by omega
      have PPW := Lib.hid (plain_below PPB.out BW.out)
      have hpn : (Value.slice xA L[1].body.length xc).ownBlock ≠ some pb := fun e => by
        rcases HCAP.out with ⟨e1, _, _⟩ | ⟨q, cur, e1, hF, _⟩
        · rw [e1] at e; cases e
        · rw [e1] at e
          injection e with e
          exact (HAT.out.mem 1 q hl1 hF).2.2.1 (by rw [show q = pb from e]; rfl)
      have HPN := Lib.hid hpn
      clear rr hxs hxl kW hpn c3
      cases bb
      · go_wp2_with fail
        have c2D : W.drew.cell? ⟨w2.heap.size, 2, none⟩ = some (.slice (some ⟨pb, 0, none⟩) L.length pc2) := c2W
        have c3D : W.drew.cell? ⟨pb, 3, none⟩ = some (.slice xA L[1].body.length xc) := c3W
        refine wp_region_sk (fun w' => w'.cell? ⟨w2.heap.size, 2, none⟩ = some (.slice (some ⟨pb, 0, none⟩) L.length pc2) ∧ w'.cell? ⟨pb, 3, none⟩ = some (.slice xA L[1].body.length xc)) 12 (by kernel_rfl) ⟨c2D, c3D⟩ (fun hHeld => ?_)
        refine wpSk_take (i := 0) (v := ?hv0) rfl (by kernel_rfl) (fun _ _ _ h => h) (Or.inl ⟨by rfl, ?hy0⟩) (by assumption) ?hr0
        case hy0 => (intro wS hSw; (try dsimp only at hSw); go_simp; (try with_reducible rfl))
        try simp only [Act.put, List.setIfInBounds_toArray]
        refine wpSk_take (i := 1) (v := ?hv1) rfl (by kernel_rfl) (fun _ _ _ h => h) (Or.inl ⟨by rfl, ?hy1⟩) (by assumption) ?hr1
        case hy1 => (intro wS hSw; (try dsimp only at hSw); go_simp; (try with_reducible rfl))
        try simp only [Act.put]
        refine wpSk_take (i := 2) (v := ?hv2) rfl (by kernel_rfl) (fun _ _ _ h => h) (Or.inl ⟨by rfl, ?hy2⟩) (by assumption) ?hr2
        case hy2 => (intro wS hSw; (try dsimp only at hSw); go_simp; (try with_reducible rfl))
        try simp only [Act.put]
        refine wpSk_take (i := 3) (v := ?hv3) rfl (by kernel_rfl) (fun _ _ _ h => h) (Or.inl ⟨by rfl, ?hy3⟩) (by assumption) ?hr3
        case hy3 => (intro wS hSw; (try dsimp only at hSw); go_simp; (try with_reducible rfl))
        try simp only [Act.put]
        refine wpSk_take (i := 4) (v := ?hv4) rfl (by kernel_rfl) (fun _ _ _ h => h) (Or.inl ⟨by rfl, ?hy4⟩) (by assumption) ?hr4
        case hy4 => (intro wS hSw; (try dsimp only at hSw); go_simp; (try with_reducible rfl))
        try simp only [Act.put]
        refine wpSk_take (i := 5) (v := ?hv5) rfl (by kernel_rfl) (fun _ _ _ h => h) (Or.inl ⟨by rfl, ?hy5⟩) (by assumption) ?hr5
        case hy5 => (intro wS hSw; (try dsimp only at hSw); go_simp; (try with_reducible rfl))
        try simp only [Act.put]
        refine wpSk_take (i := 6) (v := ?hv6) rfl (by kernel_rfl) (fun _ _ _ h => h) (Or.inl ⟨by rfl, ?hy6⟩) (by assumption) ?hr6
        case hy6 => (intro wS hSw; (try dsimp only at hSw); go_simp; (try with_reducible rfl))
        try simp only [Act.put]
        refine wpSk_take (i := 7) (v := ?hv7) rfl (by kernel_rfl) (fun _ _ _ h => h) (Or.inl ⟨by rfl, ?hy7⟩) (by assumption) ?hr7
        case hy7 => (intro wS hSw; (try dsimp only at hSw); go_simp; (try with_reducible rfl))
        try simp only [Act.put]
        refine wpSk_step (i := 8) (by kernel_rfl) rfl (fun K hK => ?_)
        go_simp
        refine hK.out _ _ (fun _ => ⟨(World.cell?_alloc_lt _ _ _ (by show w2.heap.size < W.heap.size; omega)).trans c2D, (World.cell?_alloc_lt _ _ _ (by show pb < W.heap.size; omega)).trans c3D⟩) ?_
        clear hK K hHeld
        try simp only [Act.put, List.setIfInBounds_toArray, List.set_cons_zero, List.set_cons_succ]
        refine wpSk_step (i := 9) (by kernel_rfl) rfl (fun K hK => ?_)
        refine step_appG _ sgT (by rfl) _ _ (by rfl) (by rfl) ((show OwnX b02 W.drew _ _ _ _ _ from OWB.out).own.alloc _) _ 1 1 (V8.cells ⟨6, nopeB, 0, 0, ⟨#[]⟩, none, 0, 0, none, 0, 0, none, 0, 0⟩) (by rfl) (Rd.new _ 8 1 _ _ rfl) (by simp [V8.cells, Value.oneCell']) (by omega) (by decide) ?_
        intro v37 w37 own37 gr37
        have GZ : Hid (Grew (.slice xA L[1].body.length xc) v37 W.drew w37) := Lib.hid ((Grew.of_below (Below.alloc (Below.refl _ _) (Nat.le_refl _) _)).trans gr37)
        have hz37 : W.heap.size ≤ w37.heap.size := GZ.out.keep.size
        obtain ⟨g37, c37, rfl, hg37, hp37⟩ := own_slot own37
        have c2E := GZ.out.keep.cellEq (p := ⟨w2.heap.size, 2, none⟩) (by intro e; rcases CAPW.out with ⟨e1, _, _⟩ | ⟨q, cur, e1, hF, _⟩; · rw [e1] at e; cases e
                                                                          · rw [e1] at e; have h2 := Option.some.inj e; have := (HAT.out.mem 1 q hl1 hF).2.1; simp only at h2; omega) c2D
        have c3E := GZ.out.keep.cellEq (p := ⟨pb, 3, none⟩) HPN.out c3D
        have PP37 : Hid (∃ cur e, w37.heap[pb]? = some (.cells cur e (0, 0))) := Lib.hid (by obtain ⟨cur, e, h⟩ := PPW.out; exact ⟨cur, e, (GZ.out.keep.block pb hpbW HPN.out).trans h⟩)
        have hgp : g37 ≠ pb := fun e => by
          subst e
          rcases GZ.out.lies with h | ⟨q, h, hq⟩
          · exact HPN.out h.symm
          · have h2 := Option.some.inj h
            simp only at h2
            have : W.heap.size ≤ q := hq
            omega
        have OZ : Hid (Own (cutX b02 (w37.setCell ⟨pb, 3, none⟩ (.slice (some ⟨g37, 0, none⟩) (L[1].body.length + 1) c37))) (w37.setCell ⟨pb, 3, none⟩ (.slice (some ⟨g37, 0, none⟩) (L[1].body.length + 1) c37)) 36 8 (.slice (some ⟨g37, 0, none⟩) (L[1].body.length + 1) c37) (L[1].body.length + 1) (xs.flatMap V8.cells ++ V8.cells ⟨6, nopeB, 0, 0, ⟨#[]⟩, none, 0, 0, none, 0, 0, none, 0, 0⟩)) := Lib.hid ((OwnX.of (w := W.drew) hb02 own37).setO (b := pb) (o := 3) (by intro e; exact hgp (by have h2 := Option.some.inj e; exact h2)) _).own
        refine hK.out _ _ (fun _ => ⟨c2E, c3E⟩) ?_
        clear hK K own37 gr37
        try simp only [Act.put, List.setIfInBounds_toArray]
        have hHeld : w37.cell? ⟨w2.heap.size, 2, none⟩ = some (.slice (some ⟨pb, 0, none⟩) L.length pc2) ∧ w37.cell? ⟨pb, 3, none⟩ = some (.slice xA L[1].body.length xc) := ⟨c2E, c3E⟩
        refine wpSk_take (i := 10) (v := ?hv10) rfl (by kernel_rfl) (fun _ _ _ h => h) (Or.inl ⟨by rfl, ?hy10⟩) (by assumption) ?hr10
        case hy10 => (intro wS hSw; (try dsimp only at hSw); go_simp; (try with_reducible rfl))
        try simp only [Act.put]
        refine wpSk_take (i := 11) (v := ?hv11) rfl (by kernel_rfl) (fun _ _ _ h => h) (Or.inl ⟨by rfl, ?hy11⟩) (by assumption) ?hr11
        case hy11 => (intro wS hSw; (try dsimp only at hSw); go_simp; (try with_reducible rfl))
        try simp only [Act.put]
        clear hHeld
        have f37 := plain_free PP37.out 3
        refine wpSk_step (i := 12) (by kernel_rfl) rfl (fun K hK => ?_)
        go_simp
        refine hK.out _ _ (fun h => absurd h (by decide)) ?_
        clear hK K
        refine wpSk_done (by kernel_rfl) ?_ _
        go_wp2_with fail
        go_meet
        have K2 : Hid (∀ b, b < W.heap.size → b ≠ pb → (Value.slice xA L[1].body.length xc).ownBlock ≠ some b → (w37.setCell ⟨pb, 3, none⟩ (.slice (some ⟨g37, 0, none⟩) (L[1].body.length + 1) c37)).heap[b]? = W.heap[b]?) := Lib.hid fun b hb hbp hbo => by
          rw [Below.heap_setCell _ _ _ _ hbp]
          exact GZ.out.keep.block b hb hbo
        have HJ : Hid (∀ j, j ≠ 3 → (w37.setCell ⟨pb, 3, none⟩ (.slice (some ⟨g37, 0, none⟩) (L[1].body.length + 1) c37)).cell? ⟨pb, j, none⟩ = W.cell? ⟨pb, j, none⟩) := Lib.hid fun j hj => by
          rw [World.cell?_setCell_other _ _ _ _ (fun e => by injection e with _ e; exact hj e.symm)]
          exact GZ.out.keep.cell (p := ⟨pb, j, none⟩) hpbW HPN.out
        have H3 : Hid ((w37.setCell ⟨pb, 3, none⟩ (.slice (some ⟨g37, 0, none⟩) (L[1].body.length + 1) c37)).cell? ⟨pb, 3, none⟩ = some (.slice (some ⟨g37, 0, none⟩) (L[1].body.length + 1) c37)) := Lib.hid (World.cell?_setCell_same _ _ _ c3E)
        have HLI : Hid ((Value.slice (some ⟨g37, 0, none⟩) (L[1].body.length + 1) c37).ownBlock = (Value.slice xA L[1].body.length xc).ownBlock ∨ ∃ q, (Value.slice (some ⟨g37, 0, none⟩) (L[1].body.length + 1) c37).ownBlock = some q ∧ W.heap.size ≤ q) := Lib.hid GZ.out.lies
        have HWZ : Hid (W.heap.size ≤ (w37.setCell ⟨pb, 3, none⟩ (.slice (some ⟨g37, 0, none⟩) (L[1].body.length + 1) c37)).heap.size ∧ (w37.setCell ⟨pb, 3, none⟩ (.slice (some ⟨g37, 0, none⟩) (L[1].body.length + 1) c37)).os = W.os ∧ (w37.setCell ⟨pb, 3, none⟩ (.slice (some ⟨g37, 0, none⟩) (L[1].body.length + 1) c37)).tape = W.tape ∧ (w37.setCell ⟨pb, 3, none⟩ (.slice (some ⟨g37, 0, none⟩) (L[1].body.length + 1) c37)).output = W.output) := Lib.hid ⟨by simpa using hz37, GZ.out.keep.os, GZ.out.keep.tape, GZ.out.keep.output⟩
        have PRQ := nope_row HATW.out hl1 hcs HXC.out HXL.out RRW.out HXS.out (flatO 6 nopeB (by unfold i64in; omega) (by unfold maxLen; decide)) OZ.out HLI.out K2.out HJ.out H3.out
        exact ⟨rfl, Lib.hid ⟨HWZ.out.1, HWZ.out.2.1, HWZ.out.2.2.1, HWZ.out.2.2.2, K2.out, HQP.out ▸ PRQ⟩⟩
      · go_wp2_with (at_builtin; refine wpList_appG_new W.heap.size rfl rfl _ _ _ rfl sgT OWB.out.own _ 1 rfl rfl rfl (by simp [Value.oneCell']) (by simp only [maxLen]; omega) (by omega) ?_; intro v24 w24 own24 gr24; obtain ⟨g24, c24, rfl, hg24, hp24⟩ := own_slot own24; have hgp : g24 ≠ pb := (fun e => by subst e; rcases gr24.lies with h | ⟨q, h, hq⟩ <;> first | exact HPN.out h.symm | (have h2 := Option.some.inj h; simp only at h2; omega)); have OS := (OwnX.of hb02 own24).setO (b := pb) (o := 3) (by intro e; injection e with e; exact hgp e) (.slice (some ⟨g24, 0, none⟩) (L[1].body.length + 1) c24); have O24 := Lib.hid OS; have GR24 := Lib.hid gr24; have c24p : w24.cell? ⟨pb, 3, none⟩ = some (.slice xA L[1].body.length xc) := gr24.keep.cellEq (p := ⟨pb, 3, none⟩) HPN.out c3W; have PP24 : Hid (∃ cur e, w24.heap[pb]? = some (.cells cur e (0, 0))) := Lib.hid (by obtain ⟨cur, e, h⟩ := PPW.out; exact ⟨cur, e, (gr24.keep.block pb hpbW HPN.out).trans h⟩); have f24 := plain_free PP24.out 3; have SL := slots8 OS.own; obtain ⟨⟨y0, d0⟩, e0⟩ := SL 0 (by omega); obtain ⟨⟨y1, d1⟩, e1⟩ := SL 1 (by omega); obtain ⟨⟨y2, d2⟩, e2⟩ := SL 2 (by omega); obtain ⟨⟨y3, d3⟩, e3⟩ := SL 3 (by omega); obtain ⟨⟨y4, d4⟩, e4⟩ := SL 4 (by omega); obtain ⟨⟨y5, d5⟩, e5⟩ := SL 5 (by omega); obtain ⟨⟨y6, d6⟩, e6⟩ := SL 6 (by omega); obtain ⟨⟨y7, d7⟩, e7⟩ := SL 7 (by omega); simp only [Nat.add_zero] at d0 e0; have h24l : (0 : Int) ≤ (L[1].body.length : Int) := (by omega); have h24m : (L[1].body.length : Int) < (L[1].body.length : Int) + 1 := (by omega); have h24n : (L[1].body.length : Int) < ((L[1].body.length + 1 : Nat) : Int) := (by omega); have C24 := Lib.hid c24p; clear SL OS own24 gr24)
        go_meet
        change _ ∧ Hid (_ ∧ _ ∧ _ ∧ _ ∧ (∀ b, b < W.heap.size → b ≠ pb → (Value.slice xA L[1].body.length xc).ownBlock ≠ some b → (put8 (w24.setCell ⟨pb, 3, none⟩ (.slice (some ⟨g24, 0, none⟩) (L[1].body.length + 1) c24)) g24 (L[1].body.length * 8) ⟨6, nopeB, 0, 0, ⟨#[]⟩, none, 0, 0, none, 0, 0, none, 0, 0⟩).heap[b]? = W.heap[b]?) ∧ _)
        have OZ : Hid (Own (cutX b02 (w24.setCell ⟨pb, 3, none⟩ (.slice (some ⟨g24, 0, none⟩) (L[1].body.length + 1) c24))) (put8 (w24.setCell ⟨pb, 3, none⟩ (.slice (some ⟨g24, 0, none⟩) (L[1].body.length + 1) c24)) g24 (L[1].body.length * 8) ⟨6, nopeB, 0, 0, ⟨#[]⟩, none, 0, 0, none, 0, 0, none, 0, 0⟩) 36 8 (.slice (some ⟨g24, 0, none⟩) (L[1].body.length + 1) c24) (L[1].body.length + 1) (xs.flatMap V8.cells ++ V8.cells ⟨6, nopeB, 0, 0, ⟨#[]⟩, none, 0, 0, none, 0, 0, none, 0, 0⟩)) := Lib.hid (by
          have h := O24.out.own.put8 (L[1].body.length * 8) ⟨6, nopeB, 0, 0, ⟨#[]⟩, none, 0, 0, none, 0, 0, none, 0, 0⟩
          have e := sets_last xs xs ⟨0, ⟨#[]⟩, 0, 0, ⟨#[]⟩, none, 0, 0, none, 0, 0, none, 0, 0⟩ ⟨6, nopeB, 0, 0, ⟨#[]⟩, none, 0, 0, none, 0, 0, none, 0, 0⟩
          rw [HXL.out] at e
          have e2 : sets (xs.flatMap V8.cells ++ V8.cells ⟨0, ⟨#[]⟩, 0, 0, ⟨#[]⟩, none, 0, 0, none, 0, 0, none, 0, 0⟩) (L[1].body.length * 8) (V8.cells ⟨6, nopeB, 0, 0, ⟨#[]⟩, none, 0, 0, none, 0, 0, none, 0, 0⟩) = xs.flatMap V8.cells ++ V8.cells ⟨6, nopeB, 0, 0, ⟨#[]⟩, none, 0, 0, none, 0, 0, none, 0, 0⟩ := e
          exact e2 ▸ h)
        have KK : Hid (Keep (fun b => b ≠ g24 ∧ b ≠ pb) w24 (put8 (w24.setCell ⟨pb, 3, none⟩ (.slice (some ⟨g24, 0, none⟩) (L[1].body.length + 1) c24)) g24 (L[1].body.length * 8) ⟨6, nopeB, 0, 0, ⟨#[]⟩, none, 0, 0, none, 0, 0, none, 0, 0⟩)) := Lib.hid (put8_keepS _ ((Keep.refl _ _).setCell (p := ⟨pb, 3, none⟩) (fun h => h.2 rfl) _) (fun h => h.1 rfl))
        have K2 : Hid (∀ b, b < W.heap.size → b ≠ pb → (Value.slice xA L[1].body.length xc).ownBlock ≠ some b → (put8 (w24.setCell ⟨pb, 3, none⟩ (.slice (some ⟨g24, 0, none⟩) (L[1].body.length + 1) c24)) g24 (L[1].body.length * 8) ⟨6, nopeB, 0, 0, ⟨#[]⟩, none, 0, 0, none, 0, 0, none, 0, 0⟩).heap[b]? = W.heap[b]?) := Lib.hid fun b hb hbp hbo => by
          have hbg : b ≠ g24 := fun e => by
            subst e
            rcases GR24.out.lies with h | ⟨q, h, hq⟩
            · exact hbo h.symm
            · have h2 := Option.some.inj h
              simp only at h2
              omega
          rw [put8_other _ hbg, Below.heap_setCell _ _ _ _ hbp]
          exact GR24.out.keep.block b hb hbo
        have HJ : Hid (∀ j, j ≠ 3 → (put8 (w24.setCell ⟨pb, 3, none⟩ (.slice (some ⟨g24, 0, none⟩) (L[1].body.length + 1) c24)) g24 (L[1].body.length * 8) ⟨6, nopeB, 0, 0, ⟨#[]⟩, none, 0, 0, none, 0, 0, none, 0, 0⟩).cell? ⟨pb, j, none⟩ = W.cell? ⟨pb, j, none⟩) := Lib.hid fun j hj => by
          rw [World.cell?_of_block (w := w24.setCell ⟨pb, 3, none⟩ (.slice (some ⟨g24, 0, none⟩) (L[1].body.length + 1) c24)) (put8_other _ (Ne.symm hgp)), World.cell?_setCell_other _ _ _ _ (fun e => by injection e with _ e; exact hj e.symm)]
          exact GR24.out.keep.cell (p := ⟨pb, j, none⟩) hpbW HPN.out
        have H3 : Hid ((put8 (w24.setCell ⟨pb, 3, none⟩ (.slice (some ⟨g24, 0, none⟩) (L[1].body.length + 1) c24)) g24 (L[1].body.length * 8) ⟨6, nopeB, 0, 0, ⟨#[]⟩, none, 0, 0, none, 0, 0, none, 0, 0⟩).cell? ⟨pb, 3, none⟩ = some (.slice (some ⟨g24, 0, none⟩) (L[1].body.length + 1) c24)) := Lib.hid (by
          rw [World.cell?_of_block (w := w24.setCell ⟨pb, 3, none⟩ (.slice (some ⟨g24, 0, none⟩) (L[1].body.length + 1) c24)) (put8_other _ (Ne.symm hgp))]
          exact World.cell?_setCell_same _ _ _ C24.out)
        have HLI : Hid ((Value.slice (some ⟨g24, 0, none⟩) (L[1].body.length + 1) c24).ownBlock = (Value.slice xA L[1].body.length xc).ownBlock ∨ ∃ q, (Value.slice (some ⟨g24, 0, none⟩) (L[1].body.length + 1) c24).ownBlock = some q ∧ W.heap.size ≤ q) := Lib.hid GR24.out.lies
        have HWZ : Hid (W.heap.size ≤ (put8 (w24.setCell ⟨pb, 3, none⟩ (.slice (some ⟨g24, 0, none⟩) (L[1].body.length + 1) c24)) g24 (L[1].body.length * 8) ⟨6, nopeB, 0, 0, ⟨#[]⟩, none, 0, 0, none, 0, 0, none, 0, 0⟩).heap.size ∧ (put8 (w24.setCell ⟨pb, 3, none⟩ (.slice (some ⟨g24, 0, none⟩) (L[1].body.length + 1) c24)) g24 (L[1].body.length * 8) ⟨6, nopeB, 0, 0, ⟨#[]⟩, none, 0, 0, none, 0, 0, none, 0, 0⟩).os = W.os ∧ (put8 (w24.setCell ⟨pb, 3, none⟩ (.slice (some ⟨g24, 0, none⟩) (L[1].body.length + 1) c24)) g24 (L[1].body.length * 8) ⟨6, nopeB, 0, 0, ⟨#[]⟩, none, 0, 0, none, 0, 0, none, 0, 0⟩).tape = W.tape ∧ (put8 (w24.setCell ⟨pb, 3, none⟩ (.slice (some ⟨g24, 0, none⟩) (L[1].body.length + 1) c24)) g24 (L[1].body.length * 8) ⟨6, nopeB, 0, 0, ⟨#[]⟩, none, 0, 0, none, 0, 0, none, 0, 0⟩).output = W.output) := Lib.hid ⟨Nat.le_trans GR24.out.keep.size KK.out.size, KK.out.os.trans GR24.out.keep.os, KK.out.tape.trans GR24.out.keep.tape, KK.out.output.trans GR24.out.keep.output⟩
        have PRQ := nope_row HATW.out hl1 hcs HXC.out HXL.out RRW.out HXS.out (flatO 6 nopeB (by unfold i64in; omega) (by unfold maxLen; decide)) OZ.out HLI.out K2.out HJ.out H3.out
        exact ⟨rfl, Lib.hid ⟨HWZ.out.1, HWZ.out.2.1, HWZ.out.2.2.1, HWZ.out.2.2.2, K2.out, HQP.out ▸ PRQ⟩⟩
    case rest =>
      obtain ⟨rfl, HC2⟩ := hcut
      generalize wc = W2 at *
      obtain ⟨zW, o1, o2, o3, kW, prq⟩ := HC2.out
      have KW := Lib.hid kW
      have hl2 := DP2.out.h2
      have hl3 := DP2.out.h3
      have hl4' : w1.heap.size + 1 ≤ gb2 := by have := DP2.out.h1; simpa using this
      have hpb2 : b02 ≤ pb := (HAT.out.ow.lt pb rfl).1
      have HBO : Hid (∀ b, (Value.slice xA L[1].body.length xc).ownBlock = some b → b02 ≤ b ∧ b < w2.heap.size) := Lib.hid fun b e => by
        rcases HCAP.out with ⟨e1, _, _⟩ | ⟨q, cur, e1, hF, _⟩
        · rw [e1] at e; cases e
        · rw [e1] at e
          have h2 := Option.some.inj e
          simp only at h2
          have := HAT.out.mem 1 q hl1 hF
          exact ⟨by rw [← h2]; exact this.1, by rw [← h2]; exact this.2.1⟩
      have hzWW := BW.out.size
      have BWW : Hid (Below (w1.heap.size + 1) W W2) := Lib.hid ⟨o1, o2, o3, zW, fun k hk => KW.out k (by omega) (by omega) (fun e => by have := (HBO.out k e).1; omega)⟩
      have BT : Hid (Below w.heap.size w W2) := Lib.hid ((B2.out.trans (BW.out.mono hz02)).trans (BWW.out.mono (by omega)))
      have IP : Hid (PgIs W2 ⟨some ⟨gb1, 0, none⟩, 4, some ⟨lb1, 0, none⟩, 3, pA1, pc1⟩ ⟨glD, loN, L⟩) := Lib.hid (I1.out.belowA ((B12.out.trans (BW.out.mono (by omega))).trans (BWW.out.mono (by omega))))
      replace BX1 : Hid (BoxB W2 w1.heap.size [.slice (some ⟨gb1, 0, none⟩) 4 4, .slice (some ⟨lb1, 0, none⟩) 3 3, .slice pA1 L.length pc1]) := Lib.hid fun j u hu => (BWW.out.cell (p := ⟨w1.heap.size, j, none⟩) (by show w1.heap.size < w1.heap.size + 1; omega)).trans ((BW.out.cell (p := ⟨w1.heap.size, j, none⟩) hz12).trans (BX1.out j u hu))
      replace BX2 : Hid (BoxB W2 w2.heap.size [.slice (some ⟨gb2, 0, none⟩) 4 4, .slice (some ⟨lb2, 0, none⟩) 3 3, .slice (some ⟨pb, 0, none⟩) L.length pc2]) := Lib.hid fun j u hu => (World.cell?_of_block (w := W) (a := ⟨w2.heap.size, j, none⟩) (KW.out w2.heap.size hzW (by omega) (fun e => by have := (HBO.out _ e).2; omega))).trans (BX2.out j u hu)
      have hqn : QP.length = L.length := by rw [HQP.out, List.length_set]
      have hmn : MP.length = L.length := by rw [HMP.out, List.length_set]
      have HQN := Lib.hid hqn
      have HMN := Lib.hid hmn
      have hgW : W2.heap[gb2]? = some (.cells glA 9 (0, 0)) := by rw [KW.out gb2 (by omega) (by omega) (fun e => by have := (HBO.out _ e).1; omega), BW.out.block gb2 (lt_of_block DP2.out.hg)]; exact DP2.out.hg
      have hlW : W2.heap[lb2]? = some (.cells loA 9 (0, 0)) := by rw [KW.out lb2 (by omega) (by omega) (fun e => by have := (HBO.out _ e).1; omega), BW.out.block lb2 (lt_of_block DP2.out.hl)]; exact DP2.out.hl
      have IQ : Hid (PgIs W2 ⟨some ⟨gb2, 0, none⟩, 4, some ⟨lb2, 0, none⟩, 3, some ⟨pb, 0, none⟩, pc2⟩ ⟨glD, loN, QP⟩) := Lib.hid ⟨Nat.le_refl _, by simp [maxLen], rd_block hgW rfl, by unfold maxLen; show ∀ s ∈ glD, s.size ≤ _; decide, Nat.le_refl _, by simp [maxLen], rd_block hlW rfl, by unfold maxLen; show ∀ s ∈ loN, s.size ≤ _; decide, by show QP.length ≤ pc2; rw [hqn]; exact hc2, hd2, prq⟩
      clear zW o1 o2 o3 kW prq HC2 hl2 hl3 hl4' hpb2 hzWW hqn hmn hgW hlW KW BWW HBO HAT HCAP HXC P6 PPB B12 I1 BW B2 c3 hz12 hzW hpbl hbl
      go_wp2_with fail
      refine (DR.out _ BT.out).mono ?_
      rintro e w3 ⟨gb3, lb3, b03, pA3, pc3, rfl, hc3, hd3, dp3, bw3⟩
      have B3 := Lib.hid bw3
      have DP3 := Lib.hid dp3
      have hg3 : gb3 < w3.heap.size := lt_of_block dp3.hg
      have OG3 := Lib.hid ((own_gl dp3.h1 dp3.hg).alloc (.cells #[.slice (some ⟨gb3, 0, none⟩) 4 4, .slice (some ⟨lb3, 0, none⟩) 3 3, .slice pA3 L.length pc3] 27)).own
      have hbwz := bw3.size
      have HG3 : Hid (W2.heap.size ≤ gb3) := Lib.hid dp3.h1
      have h4x : (4 : Nat) + 1 ≤ maxLen := by simp [maxLen]
      clear dp3 bw3
      go_wp2_with (at_builtin; refine wpList_appG_new (w3.heap.size + 1) (by simp) rfl _ _ _ rfl strT OG3.out _ 1 rfl rfl rfl (by simp [Value.oneCell']) (by simp [maxLen]) (by omega) ?_; intro v45 w45 own45 gr45; obtain ⟨g45, c45, rfl, hg45, hp45⟩ := own_slot own45; have O45 := Lib.hid own45; have GR45 := Lib.hid gr45; have HB45 : Hid (w45.heap[w3.heap.size]? = some (.cells #[.slice (some ⟨gb3, 0, none⟩) 4 4, .slice (some ⟨lb3, 0, none⟩) 3 3, .slice pA3 L.length pc3] 27 (0, 0))) := Lib.hid ((gr45.keep.block w3.heap.size (by simp) (by intro e; have h2 := Option.some.inj e; simp only at h2; omega)).trans (heap_alloc_new w3 _)); have x45 := (cells3 HB45.out).1.1; have f45 := (cells3 HB45.out).2.1; clear own45 gr45)
      generalize hW4 : w45.setCell ⟨w3.heap.size, 0, none⟩ (.slice (some ⟨g45, 0, none⟩) 5 c45) = W4 at *
      have hgs : g45 ≠ w3.heap.size := fun e => by
        subst e
        rcases GR45.out.lies with h | ⟨q, h, hq⟩
        · have h2 := Option.some.inj h; simp only at h2; omega
        · have h2 := Option.some.inj h; simp only at h2; simp at hq; omega
      have BX3 : Hid (BoxB W4 w3.heap.size [.slice (some ⟨g45, 0, none⟩) 5 c45, .slice (some ⟨lb3, 0, none⟩) 3 3, .slice pA3 L.length pc3]) := Lib.hid (fun j u hu => by
        rw [← hW4]
        match j, hu with
        | 0, hu => injection hu with hu; subst hu; exact World.cell?_setCell_same _ _ _ ((cells3 HB45.out).1.1)
        | 1, hu => injection hu with hu; subst hu; rw [World.cell?_setCell_other _ _ _ _ (by simp)]; exact (cells3 HB45.out).1.2.1
        | 2, hu => injection hu with hu; subst hu; rw [World.cell?_setCell_other _ _ _ _ (by simp)]; exact (cells3 HB45.out).1.2.2
        | j + 3, hu => simp at hu)
      have K4 : Hid (∀ b, b < w3.heap.size → b ≠ gb3 → W4.heap[b]? = w3.heap[b]?) := Lib.hid fun b hb hne => by
        rw [← hW4, Below.heap_setCell _ _ _ _ (by show b ≠ w3.heap.size; omega), GR45.out.keep.block b (by simp; omega) (by intro e; have h2 := Option.some.inj e; exact hne h2.symm)]
        exact heap_alloc_lt hb
      have hz4 : w3.heap.size < W4.heap.size := by rw [← hW4]; have := GR45.out.keep.size; simp at this ⊢; omega
      have B34 : Hid (Below W2.heap.size w3 W4) := Lib.hid ⟨by rw [← hW4]; exact GR45.out.keep.os, by rw [← hW4]; exact GR45.out.keep.tape, by rw [← hW4]; exact GR45.out.keep.output, by omega, fun k hk => K4.out k (by omega) (by have := HG3.out; omega)⟩
      have OW45 : Hid (Own (cutX W2.heap.size W4) W4 9 1 (.slice (some ⟨g45, 0, none⟩) 5 c45) 5 (glA.toList ++ [.string ⟨#[120]⟩])) := Lib.hid (by rw [← hW4]; exact ((OwnX.of (w := w3.alloc (.cells #[.slice (some ⟨gb3, 0, none⟩) 4 4, .slice (some ⟨lb3, 0, none⟩) 3 3, .slice pA3 L.length pc3] 27)) (by simp; omega) O45.out).setO (b := w3.heap.size) (o := 0) (by intro e; have h2 := Option.some.inj e; exact hgs h2) _).own)
      obtain ⟨A', c', e45, ir⟩ := twice_is DP3.out hc3 hd3 (by unfold maxLen; decide) OW45.out (by omega) K4.out
      injection e45 with e1 e2 e3
      subst e1 e3
      have IR := Lib.hid ir
      have BW4 : Hid (Below W2.heap.size W2 W4) := Lib.hid (B3.out.trans B34.out)
      replace IP := Lib.hid (IP.out.belowA BW4.out)
      replace IQ := Lib.hid (IQ.out.belowA BW4.out)
      replace BX1 := Lib.hid (BX1.out.below BW4.out)
      replace BX2 := Lib.hid (BX2.out.below BW4.out)
      replace BT := Lib.hid (below_then BT.out BW4.out)
      clear ir hW4 x45 f45 hg45 hp45 hbwz h4x hg3 B3 B34 BW4 HG3 OW45 K4 HB45 O45 GR45 OG3 hgs DP3
      refine (DR.out _ BT.out).mono ?_
      rintro e w5 ⟨gb4, lb4, b04, pA4, pc4, rfl, hc4, hd4, dp4, bw5⟩
      obtain ⟨cs4, G4, hat4⟩ := dp4.hp
      obtain ⟨pb4, hpb4⟩ : ∃ pb, pA4 = some ⟨pb, 0, none⟩ := by
        rcases hat4.ow.1.2 with ⟨h, h'⟩ | ⟨g, cap, cur, h, _⟩
        · omega
        · injection h with h; exact ⟨g, h⟩
      subst hpb4
      have hcs4 : 0 < cs4.length := by have := hat4.len; omega
      obtain ⟨x4, hx4, _, _⟩ := hat4.is 0 hl0 hcs4
      have c04 : w5.cell? ⟨pb4, 0, none⟩ = some (.string x4.s) := by
        have := hat4.cell (k := 0) (j := 0) hcs4 (by decide) (by rw [hx4, v2_len]; decide)
        rw [Nat.zero_mul] at this
        rw [this]; simp [hx4, V2.cells]
      have HAT4 := Lib.hid hat4
      have PP4 : Hid (∃ cur e, w5.heap[pb4]? = some (.cells cur e (0, 0))) := Lib.hid (by
        rcases hat4.ow.1.2 with ⟨h, h'⟩ | ⟨g, cap, cur, h, _, hg, _⟩
        · omega
        · injection h with h; injection h with h; injection h with h _; subst h; exact ⟨cur, _, hg⟩)
      have hp4l : pb4 < w5.heap.size := cell_lt c04
      have hlo4 : W4.heap.size ≤ pb4 := by have h1 := dp4.h1; have h2 := dp4.h2; have h3 := dp4.h3; have h4 := (hat4.ow.lt pb4 rfl).1; omega
      have GB4 : Hid (w5.heap[gb4]? = some (.cells glA 9 (0, 0)) ∧ w5.heap[lb4]? = some (.cells loA 9 (0, 0)) ∧ gb4 < pb4 ∧ lb4 < pb4) := Lib.hid ⟨dp4.hg, dp4.hl, by have h2 := dp4.h2; have h3 := dp4.h3; have h4 := (hat4.ow.lt pb4 rfl).1; omega, by have h3 := dp4.h3; have h4 := (hat4.ow.lt pb4 rfl).1; omega⟩
      have c04a : (w5.alloc (.cells #[.slice (some ⟨gb4, 0, none⟩) 4 4, .slice (some ⟨lb4, 0, none⟩) 3 3, .slice (some ⟨pb4, 0, none⟩) L.length pc4] 27)).cell? ⟨pb4, 0, none⟩ = some (.string x4.s) := (World.cell?_alloc_lt _ _ _ (by show pb4 < _; omega)).trans c04
      have f04a : (w5.alloc (.cells #[.slice (some ⟨gb4, 0, none⟩) 4 4, .slice (some ⟨lb4, 0, none⟩) 3 3, .slice (some ⟨pb4, 0, none⟩) L.length pc4] 27)).frozen? ⟨pb4, 0, none⟩ = false := plain_free (by obtain ⟨cur, e, h⟩ := PP4.out; exact ⟨cur, e, (heap_alloc_lt hp4l).trans h⟩) 0
      have f04 := plain_free PP4.out 0
      have B46 : Hid (Below W4.heap.size W4 ((w5.setCell ⟨pb4, 0, none⟩ (.string ⟨#[111, 116, 104, 101, 114]⟩)).alloc (.cells #[.slice (some ⟨gb4, 0, none⟩) 4 4, .slice (some ⟨lb4, 0, none⟩) 3 3, .slice (some ⟨pb4, 0, none⟩) L.length pc4] 27))) := Lib.hid ((bw5.setCell (by show W4.heap.size ≤ pb4; omega) _).alloc (by have := bw5.size; simpa using this) _)
      replace IP := Lib.hid (IP.out.belowA B46.out)
      replace IQ := Lib.hid (IQ.out.belowA B46.out)
      replace IR := Lib.hid (IR.out.belowA B46.out)
      replace BX1 := Lib.hid (BX1.out.below B46.out)
      replace BX2 := Lib.hid (BX2.out.below B46.out)
      replace BX3 := Lib.hid (BX3.out.below B46.out)
      replace BT := Lib.hid (below_then BT.out B46.out)
      have K6 : Hid (∀ b, b < w5.heap.size → b ≠ pb4 → ((w5.setCell ⟨pb4, 0, none⟩ (.string ⟨#[111, 116, 104, 101, 114]⟩)).alloc (.cells #[.slice (some ⟨gb4, 0, none⟩) 4 4, .slice (some ⟨lb4, 0, none⟩) 3 3, .slice (some ⟨pb4, 0, none⟩) L.length pc4] 27)).heap[b]? = w5.heap[b]?) := Lib.hid fun b hb hne => by rw [heap_alloc_lt (by simpa using hb), Below.heap_setCell _ _ _ _ hne]
      have prm := other_row (s := otherB) HAT4.out hl0 (by unfold maxLen; decide) K6.out (fun j hj => by
        rw [World.cell?_alloc_lt _ _ _ (by show pb4 < _; simpa using hp4l), World.cell?_setCell_other _ _ _ _ (fun e => by injection e with _ e; exact hj e.symm)]) (by
        rw [World.cell?_alloc_lt _ _ _ (by show pb4 < _; simpa using hp4l)]
        exact World.cell?_setCell_same _ _ _ c04)
      rw [← HMP.out] at prm
      have IM : Hid (PgIs ((w5.setCell ⟨pb4, 0, none⟩ (.string ⟨#[111, 116, 104, 101, 114]⟩)).alloc (.cells #[.slice (some ⟨gb4, 0, none⟩) 4 4, .slice (some ⟨lb4, 0, none⟩) 3 3, .slice (some ⟨pb4, 0, none⟩) L.length pc4] 27)) ⟨some ⟨gb4, 0, none⟩, 4, some ⟨lb4, 0, none⟩, 3, some ⟨pb4, 0, none⟩, pc4⟩ ⟨glD, loN, MP⟩) := Lib.hid ⟨Nat.le_refl _, by simp [maxLen], rd_block (by rw [K6.out gb4 (lt_of_block GB4.out.1) (by have := GB4.out.2.2.1; omega)]; exact GB4.out.1) rfl, by unfold maxLen; show ∀ s ∈ glD, s.size ≤ _; decide, Nat.le_refl _, by simp [maxLen], rd_block (by rw [K6.out lb4 (lt_of_block GB4.out.2.1) (by have := GB4.out.2.2.2; omega)]; exact GB4.out.2.1) rfl, by unfold maxLen; show ∀ s ∈ loN, s.size ≤ _; decide, by show MP.length ≤ pc4; rw [HMN.out]; exact hc4, hd4, prm⟩
      have BX4 : Hid (BoxB ((w5.setCell ⟨pb4, 0, none⟩ (.string ⟨#[111, 116, 104, 101, 114]⟩)).alloc (.cells #[.slice (some ⟨gb4, 0, none⟩) 4 4, .slice (some ⟨lb4, 0, none⟩) 3 3, .slice (some ⟨pb4, 0, none⟩) L.length pc4] 27)) w5.heap.size [.slice (some ⟨gb4, 0, none⟩) 4 4, .slice (some ⟨lb4, 0, none⟩) 3 3, .slice (some ⟨pb4, 0, none⟩) L.length pc4]) := Lib.hid fun j u hu => by
        exact BoxB.lit (w := (w5.setCell ⟨pb4, 0, none⟩ (.string ⟨#[111, 116, 104, 101, 114]⟩))) (cs := #[.slice (some ⟨gb4, 0, none⟩) 4 4, .slice (some ⟨lb4, 0, none⟩) 3 3, .slice (some ⟨pb4, 0, none⟩) L.length pc4]) (e := 27) (by simp) j u hu
      clear hat4 dp4 bw5 hx4 K6 prm B46 HAT4 PP4 GB4
      go_upto_region 13 with fail
      generalize ((w5.setCell ⟨pb4, 0, none⟩ (.string ⟨#[111, 116, 104, 101, 114]⟩)).alloc (.cells #[.slice (some ⟨gb4, 0, none⟩) 4 4, .slice (some ⟨lb4, 0, none⟩) 3 3, .slice (some ⟨pb4, 0, none⟩) L.length pc4] 27)) = W6 at *
      clear c04a f04a f04 c04 hlo4 hp4l
      have p0 := BX1.out 0 _ rfl
      have p1 := BX1.out 1 _ rfl
      have p2 := BX1.out 2 _ rfl
      go_wp2_with fail
      refine (pf_at rfl IP.out HZ.out.2.2 HZ.out.2.1).mono ?_
      rintro e u1 ⟨rfl, bu1⟩
      replace IP := Lib.hid (IP.out.belowA bu1)
      replace IQ := Lib.hid (IQ.out.belowA bu1)
      replace IR := Lib.hid (IR.out.belowA bu1)
      replace IM := Lib.hid (IM.out.belowA bu1)
      replace BX1 := Lib.hid (BX1.out.below bu1)
      replace BX2 := Lib.hid (BX2.out.below bu1)
      replace BX3 := Lib.hid (BX3.out.below bu1)
      replace BX4 := Lib.hid (BX4.out.below bu1)
      replace BT := Lib.hid (below_then BT.out bu1)
      clear bu1 p0 p1 p2
      have HRT : Hid (faultR ⟨glD ++ [(⟨#[120]⟩ : ByteArray)], loN, L⟩ = 2 ∧ totPg ⟨glD ++ [(⟨#[120]⟩ : ByteArray)], loN, L⟩ ≤ 1048576) := HT
      obtain ⟨UQ, hUQ⟩ : ∃ u, unkR ⟨glD, loN, QP⟩ = u := ⟨_, rfl⟩
      have HUQ := Lib.hid hUQ
      obtain ⟨fq, hfq⟩ : ∃ u, faultR ⟨glD, loN, QP⟩ = u := ⟨_, rfl⟩
      have HFQ := Lib.hid hfq
      have HQ' : Hid ((UQ = [] ∧ fq ≠ 3) ∨ (0 < UQ.length ∧ hasS UQ nopeB = true ∧ fq = 3)) := Lib.hid (by have := HQ.out; rw [hUQ, hfq] at this; exact this)
      clear hUQ hfq HQ
      have p0 := BX2.out 0 _ rfl
      have p1 := BX2.out 1 _ rfl
      have p2 := BX2.out 2 _ rfl
      rcases HQ'.out with ⟨hu, hf⟩ | ⟨hu, hh, hf⟩
      · have n3 : (fq != 3) = true := by simp [hf]
        have e3 : (fq == 3) = false := beq_eq_false_iff_ne.2 hf
        have HE : Hid (UQ = []) := Lib.hid hu
        clear hu hf HQ'
        go_wp2_with fail
        refine (pf_at HQN.out IQ.out HQT.out HFQ.out).mono ?_
        rintro e u2 ⟨rfl, bu2⟩
        replace IP := Lib.hid (IP.out.belowA bu2)
        replace IQ := Lib.hid (IQ.out.belowA bu2)
        replace IR := Lib.hid (IR.out.belowA bu2)
        replace IM := Lib.hid (IM.out.belowA bu2)
        replace BX1 := Lib.hid (BX1.out.below bu2)
        replace BX2 := Lib.hid (BX2.out.below bu2)
        replace BX3 := Lib.hid (BX3.out.below bu2)
        replace BX4 := Lib.hid (BX4.out.below bu2)
        replace BT := Lib.hid (below_then BT.out bu2)
        clear bu2 p0 p1 p2
        have p0 := BX2.out 0 _ rfl
        have p1 := BX2.out 1 _ rfl
        have p2 := BX2.out 2 _ rfl
        go_wp2_with fail
        refine (sf_at HQN.out IQ.out HQT.out HFQ.out).mono ?_
        rintro e u3 ⟨rfl, bu3⟩
        replace IP := Lib.hid (IP.out.belowA bu3)
        replace IQ := Lib.hid (IQ.out.belowA bu3)
        replace IR := Lib.hid (IR.out.belowA bu3)
        replace IM := Lib.hid (IM.out.belowA bu3)
        replace BX1 := Lib.hid (BX1.out.below bu3)
        replace BX2 := Lib.hid (BX2.out.below bu3)
        replace BX3 := Lib.hid (BX3.out.below bu3)
        replace BX4 := Lib.hid (BX4.out.below bu3)
        replace BT := Lib.hid (below_then BT.out bu3)
        clear bu3 p0 p1 p2
        have p0 := BX3.out 0 _ rfl
        have p1 := BX3.out 1 _ rfl
        have p2 := BX3.out 2 _ rfl
        go_wp2_with fail
        refine (pf5_at rfl IR.out HRT.out.2 HRT.out.1).mono ?_
        rintro e u4 ⟨rfl, bu4⟩
        replace IP := Lib.hid (IP.out.belowA bu4)
        replace IQ := Lib.hid (IQ.out.belowA bu4)
        replace IM := Lib.hid (IM.out.belowA bu4)
        replace BX1 := Lib.hid (BX1.out.below bu4)
        replace BX2 := Lib.hid (BX2.out.below bu4)
        replace BX4 := Lib.hid (BX4.out.below bu4)
        replace BT := Lib.hid (below_then BT.out bu4)
        clear bu4 p0 p1 p2 IR BX3
        have p0 := BX1.out 0 _ rfl
        have p1 := BX1.out 1 _ rfl
        have p2 := BX1.out 2 _ rfl
        go_wp2_with fail
        refine (in_at rfl IP.out HZ.out.2.2 rfl).mono ?_
        rintro e u6 ⟨v7, rfl, ow7⟩
        have bu6 := ow7.2
        replace IP := Lib.hid (IP.out.belowA bu6)
        replace IQ := Lib.hid (IQ.out.belowA bu6)
        replace IM := Lib.hid (IM.out.belowA bu6)
        replace BX1 := Lib.hid (BX1.out.below bu6)
        replace BX2 := Lib.hid (BX2.out.below bu6)
        replace BX4 := Lib.hid (BX4.out.below bu6)
        replace BT := Lib.hid (below_then BT.out bu6)
        have OW7 := Lib.hid (ownS_is ow7)
        obtain ⟨A7, c7, rfl, _⟩ := Own.slice ow7
        clear ow7 bu6 p0 p1 p2
        have m0 := BX4.out 0 _ rfl
        have m1 := BX4.out 1 _ rfl
        have m2 := BX4.out 2 _ rfl
        have q0' := BX2.out 0 _ rfl
        have q1' := BX2.out 1 _ rfl
        have q2' := BX2.out 2 _ rfl
        have p0 := BX1.out 0 _ rfl
        have p1 := BX1.out 1 _ rfl
        have p2 := BX1.out 2 _ rfl
        have hul : ((UQ.length : Int) == 0) = true := by rw [HE.out]; rfl
        go_wp2_with fail
        refine wp_region_sk (fun w' => w'.cell? ⟨w5.heap.size, 0, none⟩ = some (.slice (some ⟨gb4, 0, none⟩) 4 4) ∧ w'.cell? ⟨w5.heap.size, 1, none⟩ = some (.slice (some ⟨lb4, 0, none⟩) 3 3) ∧ w'.cell? ⟨w5.heap.size, 2, none⟩ = some (.slice (some ⟨pb4, 0, none⟩) L.length pc4) ∧ w'.cell? ⟨w2.heap.size, 0, none⟩ = some (.slice (some ⟨gb2, 0, none⟩) 4 4) ∧ w'.cell? ⟨w2.heap.size, 1, none⟩ = some (.slice (some ⟨lb2, 0, none⟩) 3 3) ∧ w'.cell? ⟨w2.heap.size, 2, none⟩ = some (.slice (some ⟨pb, 0, none⟩) L.length pc2) ∧ w'.cell? ⟨w1.heap.size, 0, none⟩ = some (.slice (some ⟨gb1, 0, none⟩) 4 4) ∧ w'.cell? ⟨w1.heap.size, 1, none⟩ = some (.slice (some ⟨lb1, 0, none⟩) 3 3) ∧ w'.cell? ⟨w1.heap.size, 2, none⟩ = some (.slice pA1 L.length pc1)) 34 (by kernel_rfl) ⟨m0, m1, m2, q0', q1', q2', p0, p1, p2⟩ (fun hHeld => ?_)
        refine wpSk_take (i := 0) (v := ?hve0) rfl (by kernel_rfl) (fun _ _ _ h => h) (Or.inl ⟨by rfl, ?hye0⟩) (by assumption) ?hre0
        case hye0 => (intro wS hSw; (try dsimp only at hSw); go_simp; (try with_reducible rfl))
        try simp only [Act.put, List.setIfInBounds_toArray]
        refine wpSk_step (i := 1) (by kernel_rfl) rfl (fun K hK => ?_)
        go_simp
        refine (pf_at HMN.out (by exact IM.out.drew) HM.out.2 HM.out.1).mono ?_
        rintro e a1 ⟨rfl, b1⟩
        have T1 := Lib.hid (below_then (Below.refl _ _).drew b1)
        have hNew : a1.cell? ⟨w5.heap.size, 0, none⟩ = some (.slice (some ⟨gb4, 0, none⟩) 4 4) ∧ a1.cell? ⟨w5.heap.size, 1, none⟩ = some (.slice (some ⟨lb4, 0, none⟩) 3 3) ∧ a1.cell? ⟨w5.heap.size, 2, none⟩ = some (.slice (some ⟨pb4, 0, none⟩) L.length pc4) ∧ a1.cell? ⟨w2.heap.size, 0, none⟩ = some (.slice (some ⟨gb2, 0, none⟩) 4 4) ∧ a1.cell? ⟨w2.heap.size, 1, none⟩ = some (.slice (some ⟨lb2, 0, none⟩) 3 3) ∧ a1.cell? ⟨w2.heap.size, 2, none⟩ = some (.slice (some ⟨pb, 0, none⟩) L.length pc2) ∧ a1.cell? ⟨w1.heap.size, 0, none⟩ = some (.slice (some ⟨gb1, 0, none⟩) 4 4) ∧ a1.cell? ⟨w1.heap.size, 1, none⟩ = some (.slice (some ⟨lb1, 0, none⟩) 3 3) ∧ a1.cell? ⟨w1.heap.size, 2, none⟩ = some (.slice pA1 L.length pc1) := by
          obtain ⟨z0, z1, z2, z3, z4, z5, z6, z7, z8⟩ := hHeld
          exact ⟨cell_keep b1 z0, cell_keep b1 z1, cell_keep b1 z2, cell_keep b1 z3, cell_keep b1 z4, cell_keep b1 z5, cell_keep b1 z6, cell_keep b1 z7, cell_keep b1 z8⟩
        refine hK.out _ _ (fun _ => hNew) ?_
        clear hK K hHeld
        have hHeld := hNew
        clear hNew
        try simp only [Act.put, List.setIfInBounds_toArray, List.set_cons_zero, List.set_cons_succ]
        refine wpSk_take (i := 2) (v := ?hve2) rfl (by kernel_rfl) (fun _ _ _ h => h) (Or.inl ⟨by rfl, ?hye2⟩) (by assumption) ?hre2
        case hye2 => (intro wS hSw; (try dsimp only at hSw); go_simp; (try with_reducible rfl))
        try simp only [Act.put, List.setIfInBounds_toArray]
        refine wpSk_take (i := 3) (v := ?hve3) rfl (by kernel_rfl) (fun _ _ _ h => h) (Or.inl ⟨by rfl, ?hye3⟩) (by assumption) ?hre3
        case hye3 => (intro wS hSw; (try dsimp only at hSw); go_simp; (try with_reducible rfl))
        try simp only [Act.put]
        refine wpSk_take (i := 4) (v := ?hve4) rfl (by kernel_rfl) (fun _ _ _ h => h) (Or.inl ⟨by rfl, ?hye4⟩) (by assumption) ?hre4
        case hye4 => (intro wS hSw; (try dsimp only at hSw); go_simp; (try with_reducible rfl))
        try simp only [Act.put]
        refine wpSk_take (i := 6) (v := ?hve6) rfl (by kernel_rfl) (fun _ _ _ h => h) (Or.inl ⟨by rfl, ?hye6⟩) (by assumption) ?hre6
        case hye6 => (intro wS hSw; (try dsimp only at hSw); go_simp; (try with_reducible rfl))
        try simp only [Act.put]
        refine wpSk_step (i := 5) (by kernel_rfl) rfl (fun K hK => ?_)
        go_simp
        refine (iu_at HQN.out (by exact IQ.out.belowA T1.out) HQT.out HUQ.out).mono ?_
        rintro e a2 ⟨v2, rfl, ow2⟩
        have b2 := ow2.2
        have T2 := Lib.hid (below_then T1.out b2)
        have OW2 := Lib.hid (ownS_is ow2)
        obtain ⟨A2, c2, rfl, _⟩ := Own.slice ow2
        clear ow2
        have hNew : a2.cell? ⟨w5.heap.size, 0, none⟩ = some (.slice (some ⟨gb4, 0, none⟩) 4 4) ∧ a2.cell? ⟨w5.heap.size, 1, none⟩ = some (.slice (some ⟨lb4, 0, none⟩) 3 3) ∧ a2.cell? ⟨w5.heap.size, 2, none⟩ = some (.slice (some ⟨pb4, 0, none⟩) L.length pc4) ∧ a2.cell? ⟨w2.heap.size, 0, none⟩ = some (.slice (some ⟨gb2, 0, none⟩) 4 4) ∧ a2.cell? ⟨w2.heap.size, 1, none⟩ = some (.slice (some ⟨lb2, 0, none⟩) 3 3) ∧ a2.cell? ⟨w2.heap.size, 2, none⟩ = some (.slice (some ⟨pb, 0, none⟩) L.length pc2) ∧ a2.cell? ⟨w1.heap.size, 0, none⟩ = some (.slice (some ⟨gb1, 0, none⟩) 4 4) ∧ a2.cell? ⟨w1.heap.size, 1, none⟩ = some (.slice (some ⟨lb1, 0, none⟩) 3 3) ∧ a2.cell? ⟨w1.heap.size, 2, none⟩ = some (.slice pA1 L.length pc1) := by
          obtain ⟨z0, z1, z2, z3, z4, z5, z6, z7, z8⟩ := hHeld
          exact ⟨cell_keep b2 z0, cell_keep b2 z1, cell_keep b2 z2, cell_keep b2 z3, cell_keep b2 z4, cell_keep b2 z5, cell_keep b2 z6, cell_keep b2 z7, cell_keep b2 z8⟩
        refine hK.out _ _ (fun _ => hNew) ?_
        clear hK K hHeld
        have hHeld := hNew
        clear hNew
        try simp only [Act.put, List.setIfInBounds_toArray, List.set_cons_zero, List.set_cons_succ]
        refine wpSk_step (i := 7) (by kernel_rfl) rfl (fun K hK => ?_)
        go_simp
        refine (su_at HQN.out (by exact IQ.out.belowA T2.out) HQT.out HUQ.out).mono ?_
        rintro e a3 ⟨v3, rfl, ow3⟩
        have b3 := ow3.2
        have T3 := Lib.hid (below_then T2.out b3)
        have OW3 := Lib.hid (ownS_is ow3)
        obtain ⟨A3, c3', rfl, _⟩ := Own.slice ow3
        clear ow3
        have hNew : a3.cell? ⟨w5.heap.size, 0, none⟩ = some (.slice (some ⟨gb4, 0, none⟩) 4 4) ∧ a3.cell? ⟨w5.heap.size, 1, none⟩ = some (.slice (some ⟨lb4, 0, none⟩) 3 3) ∧ a3.cell? ⟨w5.heap.size, 2, none⟩ = some (.slice (some ⟨pb4, 0, none⟩) L.length pc4) ∧ a3.cell? ⟨w2.heap.size, 0, none⟩ = some (.slice (some ⟨gb2, 0, none⟩) 4 4) ∧ a3.cell? ⟨w2.heap.size, 1, none⟩ = some (.slice (some ⟨lb2, 0, none⟩) 3 3) ∧ a3.cell? ⟨w2.heap.size, 2, none⟩ = some (.slice (some ⟨pb, 0, none⟩) L.length pc2) ∧ a3.cell? ⟨w1.heap.size, 0, none⟩ = some (.slice (some ⟨gb1, 0, none⟩) 4 4) ∧ a3.cell? ⟨w1.heap.size, 1, none⟩ = some (.slice (some ⟨lb1, 0, none⟩) 3 3) ∧ a3.cell? ⟨w1.heap.size, 2, none⟩ = some (.slice pA1 L.length pc1) := by
          obtain ⟨z0, z1, z2, z3, z4, z5, z6, z7, z8⟩ := hHeld
          exact ⟨cell_keep b3 z0, cell_keep b3 z1, cell_keep b3 z2, cell_keep b3 z3, cell_keep b3 z4, cell_keep b3 z5, cell_keep b3 z6, cell_keep b3 z7, cell_keep b3 z8⟩
        refine hK.out _ _ (fun _ => hNew) ?_
        clear hK K hHeld
        have hHeld := hNew
        clear hNew
        try simp only [Act.put, List.setIfInBounds_toArray, List.set_cons_zero, List.set_cons_succ]
        refine wpSk_step (i := 8) (by kernel_rfl) rfl (fun K hK => ?_)
        go_simp
        refine (laws_sameTextsS _ _ UQ _ (by exact OW2.out.below b3) (by exact OW3.out)).mono ?_
        rintro e a4 ⟨rfl, q4⟩
        have b4 := q4.below
        have T4 := Lib.hid (below_then T3.out b4)
        clear q4
        have hNew : a4.cell? ⟨w5.heap.size, 0, none⟩ = some (.slice (some ⟨gb4, 0, none⟩) 4 4) ∧ a4.cell? ⟨w5.heap.size, 1, none⟩ = some (.slice (some ⟨lb4, 0, none⟩) 3 3) ∧ a4.cell? ⟨w5.heap.size, 2, none⟩ = some (.slice (some ⟨pb4, 0, none⟩) L.length pc4) ∧ a4.cell? ⟨w2.heap.size, 0, none⟩ = some (.slice (some ⟨gb2, 0, none⟩) 4 4) ∧ a4.cell? ⟨w2.heap.size, 1, none⟩ = some (.slice (some ⟨lb2, 0, none⟩) 3 3) ∧ a4.cell? ⟨w2.heap.size, 2, none⟩ = some (.slice (some ⟨pb, 0, none⟩) L.length pc2) ∧ a4.cell? ⟨w1.heap.size, 0, none⟩ = some (.slice (some ⟨gb1, 0, none⟩) 4 4) ∧ a4.cell? ⟨w1.heap.size, 1, none⟩ = some (.slice (some ⟨lb1, 0, none⟩) 3 3) ∧ a4.cell? ⟨w1.heap.size, 2, none⟩ = some (.slice pA1 L.length pc1) := by
          obtain ⟨z0, z1, z2, z3, z4, z5, z6, z7, z8⟩ := hHeld
          exact ⟨cell_keep b4 z0, cell_keep b4 z1, cell_keep b4 z2, cell_keep b4 z3, cell_keep b4 z4, cell_keep b4 z5, cell_keep b4 z6, cell_keep b4 z7, cell_keep b4 z8⟩
        refine hK.out _ _ (fun _ => hNew) ?_
        clear hK K hHeld
        have hHeld := hNew
        clear hNew
        try simp only [Act.put, List.setIfInBounds_toArray, List.set_cons_zero, List.set_cons_succ]
        refine wpSk_take (i := 9) (v := ?hve9) rfl (by kernel_rfl) (fun _ _ _ h => h) (Or.inl ⟨by rfl, ?hye9⟩) (by assumption) ?hre9
        case hye9 => (intro wS hSw; (try dsimp only at hSw); go_simp; (try with_reducible rfl))
        try simp only [Act.put, List.setIfInBounds_toArray]
        refine wpSk_take (i := 10) (v := ?hve10) rfl (by kernel_rfl) (fun _ _ _ h => h) (Or.inl ⟨by rfl, ?hye10⟩) (by assumption) ?hre10
        case hye10 => (intro wS hSw; (try dsimp only at hSw); go_simp; (try with_reducible rfl))
        try simp only [Act.put]
        refine wpSk_take (i := 11) (v := ?hve11) rfl (by kernel_rfl) (fun _ _ _ h => h) (Or.inl ⟨by rfl, ?hye11⟩) (by assumption) ?hre11
        case hye11 => (intro wS hSw; (try dsimp only at hSw); go_simp; (try with_reducible rfl))
        try simp only [Act.put]
        refine wpSk_step (i := 12) (by kernel_rfl) rfl (fun K hK => ?_)
        go_simp
        refine (iu_at rfl (by exact IP.out.belowA T4.out) HZ.out.2.2 HZ.out.1).mono ?_
        rintro e a5 ⟨v5, rfl, ow5⟩
        have b5 := ow5.2
        have T5 := Lib.hid (below_then T4.out b5)
        obtain ⟨A5, c5, rfl, _⟩ := Own.slice ow5
        clear ow5
        have hNew : a5.cell? ⟨w5.heap.size, 0, none⟩ = some (.slice (some ⟨gb4, 0, none⟩) 4 4) ∧ a5.cell? ⟨w5.heap.size, 1, none⟩ = some (.slice (some ⟨lb4, 0, none⟩) 3 3) ∧ a5.cell? ⟨w5.heap.size, 2, none⟩ = some (.slice (some ⟨pb4, 0, none⟩) L.length pc4) ∧ a5.cell? ⟨w2.heap.size, 0, none⟩ = some (.slice (some ⟨gb2, 0, none⟩) 4 4) ∧ a5.cell? ⟨w2.heap.size, 1, none⟩ = some (.slice (some ⟨lb2, 0, none⟩) 3 3) ∧ a5.cell? ⟨w2.heap.size, 2, none⟩ = some (.slice (some ⟨pb, 0, none⟩) L.length pc2) ∧ a5.cell? ⟨w1.heap.size, 0, none⟩ = some (.slice (some ⟨gb1, 0, none⟩) 4 4) ∧ a5.cell? ⟨w1.heap.size, 1, none⟩ = some (.slice (some ⟨lb1, 0, none⟩) 3 3) ∧ a5.cell? ⟨w1.heap.size, 2, none⟩ = some (.slice pA1 L.length pc1) := by
          obtain ⟨z0, z1, z2, z3, z4, z5, z6, z7, z8⟩ := hHeld
          exact ⟨cell_keep b5 z0, cell_keep b5 z1, cell_keep b5 z2, cell_keep b5 z3, cell_keep b5 z4, cell_keep b5 z5, cell_keep b5 z6, cell_keep b5 z7, cell_keep b5 z8⟩
        refine hK.out _ _ (fun _ => hNew) ?_
        clear hK K hHeld
        have hHeld := hNew
        clear hNew
        try simp only [Act.put, List.setIfInBounds_toArray, List.set_cons_zero, List.set_cons_succ]
        refine wpSk_take (i := 13) (v := ?hve13) rfl (by kernel_rfl) (fun _ _ _ h => h) (Or.inl ⟨by rfl, ?hye13⟩) (by assumption) ?hre13
        case hye13 => (intro wS hSw; (try dsimp only at hSw); go_simp; (try with_reducible rfl))
        try simp only [Act.put, List.setIfInBounds_toArray]
        refine wpSk_take (i := 14) (v := ?hve14) rfl (by kernel_rfl) (fun _ _ _ h => h) (Or.inl ⟨by rfl, ?hye14⟩) (by assumption) ?hre14
        case hye14 => (intro wS hSw; (try dsimp only at hSw); go_simp; (try with_reducible rfl))
        try simp only [Act.put]
        refine wpSk_take (i := 15) (v := ?hve15) rfl (by kernel_rfl) (fun _ _ _ h => h) (Or.inl ⟨by rfl, ?hye15⟩) (by assumption) ?hre15
        case hye15 => (intro wS hSw; (try dsimp only at hSw); go_simp; (try with_reducible rfl))
        try simp only [Act.put]
        refine wpSk_take (i := 16) (v := ?hve16) rfl (by kernel_rfl) (fun _ _ _ h => h) (Or.inl ⟨by rfl, ?hye16⟩) (by assumption) ?hre16
        case hye16 => (intro wS hSw; (try dsimp only at hSw); go_simp; (try with_reducible rfl))
        try simp only [Act.put]
        refine wpSk_take (i := 17) (v := ?hve17) rfl (by kernel_rfl) (fun _ _ _ h => h) (Or.inl ⟨by rfl, ?hye17⟩) (by assumption) ?hre17
        case hye17 => (intro wS hSw; (try dsimp only at hSw); go_simp; (try with_reducible rfl))
        try simp only [Act.put]
        refine wpSk_take (i := 18) (v := ?hve18) rfl (by kernel_rfl) (fun _ _ _ h => h) (Or.inl ⟨by rfl, ?hye18⟩) (by assumption) ?hre18
        case hye18 => (intro wS hSw; (try dsimp only at hSw); go_simp; (try with_reducible rfl))
        try simp only [Act.put]
        refine wpSk_step (i := 19) (by kernel_rfl) rfl (fun K hK => ?_)
        go_simp
        refine (DR.out _ (by exact below_then BT.out T5.out)).mono ?_
        rintro e a6 ⟨gb6, lb6, b06, pA6, pc6, rfl, hc6, hd6, dp6, b6⟩
        have IX := Lib.hid (dp6.is hc6 hd6)
        have T6 := Lib.hid (below_then T5.out b6)
        clear dp6
        have hNew : a6.cell? ⟨w5.heap.size, 0, none⟩ = some (.slice (some ⟨gb4, 0, none⟩) 4 4) ∧ a6.cell? ⟨w5.heap.size, 1, none⟩ = some (.slice (some ⟨lb4, 0, none⟩) 3 3) ∧ a6.cell? ⟨w5.heap.size, 2, none⟩ = some (.slice (some ⟨pb4, 0, none⟩) L.length pc4) ∧ a6.cell? ⟨w2.heap.size, 0, none⟩ = some (.slice (some ⟨gb2, 0, none⟩) 4 4) ∧ a6.cell? ⟨w2.heap.size, 1, none⟩ = some (.slice (some ⟨lb2, 0, none⟩) 3 3) ∧ a6.cell? ⟨w2.heap.size, 2, none⟩ = some (.slice (some ⟨pb, 0, none⟩) L.length pc2) ∧ a6.cell? ⟨w1.heap.size, 0, none⟩ = some (.slice (some ⟨gb1, 0, none⟩) 4 4) ∧ a6.cell? ⟨w1.heap.size, 1, none⟩ = some (.slice (some ⟨lb1, 0, none⟩) 3 3) ∧ a6.cell? ⟨w1.heap.size, 2, none⟩ = some (.slice pA1 L.length pc1) := by
          obtain ⟨z0, z1, z2, z3, z4, z5, z6, z7, z8⟩ := hHeld
          exact ⟨cell_keep b6 z0, cell_keep b6 z1, cell_keep b6 z2, cell_keep b6 z3, cell_keep b6 z4, cell_keep b6 z5, cell_keep b6 z6, cell_keep b6 z7, cell_keep b6 z8⟩
        refine hK.out _ _ (fun _ => hNew) ?_
        clear hK K hHeld
        have hHeld := hNew
        clear hNew
        try simp only [Act.put, List.setIfInBounds_toArray, List.set_cons_zero, List.set_cons_succ]
        refine wpSk_step (i := 20) (by kernel_rfl) rfl (fun K hK => ?_)
        go_simp
        refine (sn_at rfl (by exact IX.out) HZ.out.2.2 rfl).mono ?_
        rintro e a7 ⟨v7b, rfl, ow7b⟩
        have b7 := ow7b.2
        have T7 := Lib.hid (below_then T6.out b7)
        have OW7b := Lib.hid (ownS_is ow7b)
        obtain ⟨A7b, c7b, rfl, _⟩ := Own.slice ow7b
        clear ow7b
        have hNew : a7.cell? ⟨w5.heap.size, 0, none⟩ = some (.slice (some ⟨gb4, 0, none⟩) 4 4) ∧ a7.cell? ⟨w5.heap.size, 1, none⟩ = some (.slice (some ⟨lb4, 0, none⟩) 3 3) ∧ a7.cell? ⟨w5.heap.size, 2, none⟩ = some (.slice (some ⟨pb4, 0, none⟩) L.length pc4) ∧ a7.cell? ⟨w2.heap.size, 0, none⟩ = some (.slice (some ⟨gb2, 0, none⟩) 4 4) ∧ a7.cell? ⟨w2.heap.size, 1, none⟩ = some (.slice (some ⟨lb2, 0, none⟩) 3 3) ∧ a7.cell? ⟨w2.heap.size, 2, none⟩ = some (.slice (some ⟨pb, 0, none⟩) L.length pc2) ∧ a7.cell? ⟨w1.heap.size, 0, none⟩ = some (.slice (some ⟨gb1, 0, none⟩) 4 4) ∧ a7.cell? ⟨w1.heap.size, 1, none⟩ = some (.slice (some ⟨lb1, 0, none⟩) 3 3) ∧ a7.cell? ⟨w1.heap.size, 2, none⟩ = some (.slice pA1 L.length pc1) := by
          obtain ⟨z0, z1, z2, z3, z4, z5, z6, z7, z8⟩ := hHeld
          exact ⟨cell_keep b7 z0, cell_keep b7 z1, cell_keep b7 z2, cell_keep b7 z3, cell_keep b7 z4, cell_keep b7 z5, cell_keep b7 z6, cell_keep b7 z7, cell_keep b7 z8⟩
        refine hK.out _ _ (fun _ => hNew) ?_
        clear hK K hHeld
        have hHeld := hNew
        clear hNew
        try simp only [Act.put, List.setIfInBounds_toArray, List.set_cons_zero, List.set_cons_succ]
        refine wpSk_step (i := 21) (by kernel_rfl) rfl (fun K hK => ?_)
        go_simp
        refine (laws_sameTextsS _ _ (unuR ⟨glD, loN, L⟩) _ (by exact OW7.out.below T7.out) (by exact OW7b.out)).mono ?_
        rintro e a8 ⟨rfl, q8⟩
        have b8 := q8.below
        have T8 := Lib.hid (below_then T7.out b8)
        clear q8
        have hNew : a8.cell? ⟨w5.heap.size, 0, none⟩ = some (.slice (some ⟨gb4, 0, none⟩) 4 4) ∧ a8.cell? ⟨w5.heap.size, 1, none⟩ = some (.slice (some ⟨lb4, 0, none⟩) 3 3) ∧ a8.cell? ⟨w5.heap.size, 2, none⟩ = some (.slice (some ⟨pb4, 0, none⟩) L.length pc4) ∧ a8.cell? ⟨w2.heap.size, 0, none⟩ = some (.slice (some ⟨gb2, 0, none⟩) 4 4) ∧ a8.cell? ⟨w2.heap.size, 1, none⟩ = some (.slice (some ⟨lb2, 0, none⟩) 3 3) ∧ a8.cell? ⟨w2.heap.size, 2, none⟩ = some (.slice (some ⟨pb, 0, none⟩) L.length pc2) ∧ a8.cell? ⟨w1.heap.size, 0, none⟩ = some (.slice (some ⟨gb1, 0, none⟩) 4 4) ∧ a8.cell? ⟨w1.heap.size, 1, none⟩ = some (.slice (some ⟨lb1, 0, none⟩) 3 3) ∧ a8.cell? ⟨w1.heap.size, 2, none⟩ = some (.slice pA1 L.length pc1) := by
          obtain ⟨z0, z1, z2, z3, z4, z5, z6, z7, z8⟩ := hHeld
          exact ⟨cell_keep b8 z0, cell_keep b8 z1, cell_keep b8 z2, cell_keep b8 z3, cell_keep b8 z4, cell_keep b8 z5, cell_keep b8 z6, cell_keep b8 z7, cell_keep b8 z8⟩
        refine hK.out _ _ (fun _ => hNew) ?_
        clear hK K hHeld
        have hHeld := hNew
        clear hNew
        try simp only [Act.put, List.setIfInBounds_toArray, List.set_cons_zero, List.set_cons_succ]
        refine wpSk_take (i := 22) (v := ?hve22) rfl (by kernel_rfl) (fun _ _ _ h => h) (Or.inl ⟨by rfl, ?hye22⟩) (by assumption) ?hre22
        case hye22 => (intro wS hSw; (try dsimp only at hSw); go_simp; (try with_reducible rfl))
        try simp only [Act.put, List.setIfInBounds_toArray]
        refine wpSk_take (i := 23) (v := ?hve23) rfl (by kernel_rfl) (fun _ _ _ h => h) (Or.inl ⟨by rfl, ?hye23⟩) (by assumption) ?hre23
        case hye23 => (intro wS hSw; (try dsimp only at hSw); go_simp; (try with_reducible rfl))
        try simp only [Act.put]
        refine wpSk_take (i := 24) (v := ?hve24) rfl (by kernel_rfl) (fun _ _ _ h => h) (Or.inl ⟨by rfl, ?hye24⟩) (by assumption) ?hre24
        case hye24 => (intro wS hSw; (try dsimp only at hSw); go_simp; (try with_reducible rfl))
        try simp only [Act.put]
        refine wpSk_step (i := 25) (by kernel_rfl) rfl (fun K hK => ?_)
        go_simp
        refine (su_at HQN.out (by exact IQ.out.belowA T8.out) HQT.out HUQ.out).mono ?_
        rintro e a9 ⟨v9, rfl, ow9⟩
        have b9 := ow9.2
        have T9 := Lib.hid (below_then T8.out b9)
        obtain ⟨A9, c9, rfl, _⟩ := Own.slice ow9
        clear ow9
        have hNew : a9.cell? ⟨w5.heap.size, 0, none⟩ = some (.slice (some ⟨gb4, 0, none⟩) 4 4) ∧ a9.cell? ⟨w5.heap.size, 1, none⟩ = some (.slice (some ⟨lb4, 0, none⟩) 3 3) ∧ a9.cell? ⟨w5.heap.size, 2, none⟩ = some (.slice (some ⟨pb4, 0, none⟩) L.length pc4) ∧ a9.cell? ⟨w2.heap.size, 0, none⟩ = some (.slice (some ⟨gb2, 0, none⟩) 4 4) ∧ a9.cell? ⟨w2.heap.size, 1, none⟩ = some (.slice (some ⟨lb2, 0, none⟩) 3 3) ∧ a9.cell? ⟨w2.heap.size, 2, none⟩ = some (.slice (some ⟨pb, 0, none⟩) L.length pc2) ∧ a9.cell? ⟨w1.heap.size, 0, none⟩ = some (.slice (some ⟨gb1, 0, none⟩) 4 4) ∧ a9.cell? ⟨w1.heap.size, 1, none⟩ = some (.slice (some ⟨lb1, 0, none⟩) 3 3) ∧ a9.cell? ⟨w1.heap.size, 2, none⟩ = some (.slice pA1 L.length pc1) := by
          obtain ⟨z0, z1, z2, z3, z4, z5, z6, z7, z8⟩ := hHeld
          exact ⟨cell_keep b9 z0, cell_keep b9 z1, cell_keep b9 z2, cell_keep b9 z3, cell_keep b9 z4, cell_keep b9 z5, cell_keep b9 z6, cell_keep b9 z7, cell_keep b9 z8⟩
        refine hK.out _ _ (fun _ => hNew) ?_
        clear hK K hHeld
        have hHeld := hNew
        clear hNew
        try simp only [Act.put, List.setIfInBounds_toArray, List.set_cons_zero, List.set_cons_succ]
        refine wpSk_take (i := 26) (v := ?hve26) rfl (by kernel_rfl) (fun _ _ _ h => h) (Or.inl ⟨by rfl, ?hye26⟩) (by assumption) ?hre26
        case hye26 => (intro wS hSw; (try dsimp only at hSw); go_simp; (try with_reducible rfl))
        try simp only [Act.put, List.setIfInBounds_toArray]
        refine wpSk_take (i := 27) (v := ?hve27) rfl (by kernel_rfl) (fun _ _ _ h => h) (Or.inl ⟨by rfl, ?hye27⟩) (by assumption) ?hre27
        case hye27 => (intro wS hSw; (try dsimp only at hSw); go_simp; (try with_reducible rfl))
        try simp only [Act.put]
        refine wpSk_take (i := 28) (v := ?hve28) rfl (by kernel_rfl) (fun _ _ _ h => h) (Or.inl ⟨by rfl, ?hye28⟩) (by assumption) ?hre28
        case hye28 => (intro wS hSw; (try dsimp only at hSw); go_simp; (try with_reducible rfl))
        try simp only [Act.put]
        refine wpSk_take (i := 29) (v := undef) rfl (by kernel_rfl) (fun _ _ _ h => h) (Or.inr ⟨by rfl, rfl⟩) (by assumption) ?_
        try simp only [Act.put]
        refine wpSk_take (i := 30) (v := undef) rfl (by kernel_rfl) (fun _ _ _ h => h) (Or.inr ⟨by rfl, rfl⟩) (by assumption) ?_
        try simp only [Act.put]
        refine wpSk_take (i := 31) (v := undef) rfl (by kernel_rfl) (fun _ _ _ h => h) (Or.inr ⟨by rfl, rfl⟩) (by assumption) ?_
        try simp only [Act.put]
        refine wpSk_take (i := 32) (v := ?hve32) rfl (by kernel_rfl) (fun _ _ _ h => h) (Or.inl ⟨by rfl, ?hye32⟩) (by assumption) ?hre32
        case hye32 => (intro wS hSw; (try dsimp only at hSw); go_simp; (try with_reducible rfl))
        try simp only [Act.put]
        refine wpSk_take (i := 33) (v := ?hve33) rfl (by kernel_rfl) (fun _ _ _ h => h) (Or.inl ⟨by rfl, ?hye33⟩) (by assumption) ?hre33
        case hye33 => (intro wS hSw; (try dsimp only at hSw); go_simp; (try with_reducible rfl))
        try simp only [Act.put]
        refine wpSk_step (i := 34) (by kernel_rfl) rfl (fun K hK => ?_)
        go_simp
        refine hK.out _ _ (fun h => absurd h (by decide)) ?_
        clear hK K
        refine wpSk_done (by kernel_rfl) ?_ _
        go_wp2_with fail
        go_ret
        exact ⟨rfl, below_then BT.out T9.out⟩
      · have n3 : (fq != 3) = false := by simp [hf]
        have HN := Lib.hid (And.intro hu hh)
        clear hu hf hh HQ'
        go_wp2_with fail
        refine (pf_at HQN.out IQ.out HQT.out HFQ.out).mono ?_
        rintro e u3 ⟨rfl, bu3⟩
        replace IP := Lib.hid (IP.out.belowA bu3)
        replace IQ := Lib.hid (IQ.out.belowA bu3)
        replace IR := Lib.hid (IR.out.belowA bu3)
        replace IM := Lib.hid (IM.out.belowA bu3)
        replace BX1 := Lib.hid (BX1.out.below bu3)
        replace BX2 := Lib.hid (BX2.out.below bu3)
        replace BX3 := Lib.hid (BX3.out.below bu3)
        replace BX4 := Lib.hid (BX4.out.below bu3)
        replace BT := Lib.hid (below_then BT.out bu3)
        clear bu3 p0 p1 p2
        have p0 := BX3.out 0 _ rfl
        have p1 := BX3.out 1 _ rfl
        have p2 := BX3.out 2 _ rfl
        go_wp2_with fail
        refine (pf5_at rfl IR.out HRT.out.2 HRT.out.1).mono ?_
        rintro e u4 ⟨rfl, bu4⟩
        replace IP := Lib.hid (IP.out.belowA bu4)
        replace IQ := Lib.hid (IQ.out.belowA bu4)
        replace IM := Lib.hid (IM.out.belowA bu4)
        replace BX1 := Lib.hid (BX1.out.below bu4)
        replace BX2 := Lib.hid (BX2.out.below bu4)
        replace BX4 := Lib.hid (BX4.out.below bu4)
        replace BT := Lib.hid (below_then BT.out bu4)
        clear bu4 p0 p1 p2 IR BX3
        have p0 := BX1.out 0 _ rfl
        have p1 := BX1.out 1 _ rfl
        have p2 := BX1.out 2 _ rfl
        go_wp2_with fail
        refine (in_at rfl IP.out HZ.out.2.2 rfl).mono ?_
        rintro e u6 ⟨v7, rfl, ow7⟩
        have bu6 := ow7.2
        replace IP := Lib.hid (IP.out.belowA bu6)
        replace IQ := Lib.hid (IQ.out.belowA bu6)
        replace IM := Lib.hid (IM.out.belowA bu6)
        replace BX1 := Lib.hid (BX1.out.below bu6)
        replace BX2 := Lib.hid (BX2.out.below bu6)
        replace BX4 := Lib.hid (BX4.out.below bu6)
        replace BT := Lib.hid (below_then BT.out bu6)
        have OW7 := Lib.hid (ownS_is ow7)
        obtain ⟨A7, c7, rfl, _⟩ := Own.slice ow7
        clear ow7 bu6 p0 p1 p2
        have m0 := BX4.out 0 _ rfl
        have m1 := BX4.out 1 _ rfl
        have m2 := BX4.out 2 _ rfl
        have q0' := BX2.out 0 _ rfl
        have q1' := BX2.out 1 _ rfl
        have q2' := BX2.out 2 _ rfl
        have p0 := BX1.out 0 _ rfl
        have p1 := BX1.out 1 _ rfl
        have p2 := BX1.out 2 _ rfl
        have hul : ((UQ.length : Int) == 0) = false := beq_eq_false_iff_ne.2 (by have := HN.out.1; omega)
        go_wp2_with fail
        go_region_held3 (fun w' => w'.cell? ⟨w5.heap.size, 0, none⟩ = some (.slice (some ⟨gb4, 0, none⟩) 4 4) ∧ w'.cell? ⟨w5.heap.size, 1, none⟩ = some (.slice (some ⟨lb4, 0, none⟩) 3 3) ∧ w'.cell? ⟨w5.heap.size, 2, none⟩ = some (.slice (some ⟨pb4, 0, none⟩) L.length pc4) ∧ w'.cell? ⟨w2.heap.size, 0, none⟩ = some (.slice (some ⟨gb2, 0, none⟩) 4 4) ∧ w'.cell? ⟨w2.heap.size, 1, none⟩ = some (.slice (some ⟨lb2, 0, none⟩) 3 3) ∧ w'.cell? ⟨w2.heap.size, 2, none⟩ = some (.slice (some ⟨pb, 0, none⟩) L.length pc2) ∧ w'.cell? ⟨w1.heap.size, 0, none⟩ = some (.slice (some ⟨gb1, 0, none⟩) 4 4) ∧ w'.cell? ⟨w1.heap.size, 1, none⟩ = some (.slice (some ⟨lb1, 0, none⟩) 3 3) ∧ w'.cell? ⟨w1.heap.size, 2, none⟩ = some (.slice pA1 L.length pc1))
          (first | go_keep | (go_split_ands; refine ⟨?_, ?_, ?_, ?_, ?_, ?_, ?_, ?_, ?_⟩ <;> first | exact cell_keep b10 (by assumption) | exact cell_keep b9 (by assumption) | exact cell_keep b8 (by assumption) | exact cell_keep b7 (by assumption) | exact cell_keep b6 (by assumption) | exact cell_keep b5 (by assumption) | exact cell_keep b4 (by assumption) | exact cell_keep b3 (by assumption) | exact cell_keep b2 (by assumption) | exact cell_keep b1 (by assumption) | assumption))
          (first
            | (go_at_call 14; (refine (laws_hasTextS _ UQ nopeB _ (by exact OW10.out)).mono ?_); rintro e a11 ⟨rfl, rfl⟩; rw [HN.out.2])
            | (go_at_call 11; (refine (iu_at HQN.out (by exact IQ.out.belowA T9.out) HQT.out HUQ.out).mono ?_); rintro e a10 ⟨v10, rfl, ow10⟩; have b10 := ow10.2; have T10 := Lib.hid (below_then T9.out b10); have OW10 := Lib.hid (ownS_is ow10); obtain ⟨A10, c10, rfl, _⟩ := Own.slice ow10; clear ow10)
            | (go_at_call 12; (refine (su_at HQN.out (by exact IQ.out.belowA T8.out) HQT.out HUQ.out).mono ?_); rintro e a9 ⟨v9, rfl, ow9⟩; have b9 := ow9.2; have T9 := Lib.hid (below_then T8.out b9); obtain ⟨A9, c9, rfl, _⟩ := Own.slice ow9; clear ow9)
            | (go_at_call 10; (refine (laws_sameTextsS _ _ (unuR ⟨glD, loN, L⟩) _ (by exact OW7.out.below T7.out) (by exact OW7b.out)).mono ?_); rintro e a8 ⟨rfl, q8⟩; have b8 := q8.below; have T8 := Lib.hid (below_then T7.out b8); clear q8)
            | (go_at_call 13; (refine (sn_at rfl (by exact IX.out) HZ.out.2.2 rfl).mono ?_); rintro e a7 ⟨v7b, rfl, ow7b⟩; have b7 := ow7b.2; have T7 := Lib.hid (below_then T6.out b7); have OW7b := Lib.hid (ownS_is ow7b); obtain ⟨A7b, c7b, rfl, _⟩ := Own.slice ow7b; clear ow7b)
            | (go_at_call 6; (refine (DR.out _ (by exact below_then BT.out T5.out)).mono ?_); rintro e a6 ⟨gb6, lb6, b06, pA6, pc6, rfl, hc6, hd6, dp6, b6⟩; have IX := Lib.hid (dp6.is hc6 hd6); have T6 := Lib.hid (below_then T5.out b6); clear dp6)
            | (go_at_call 11; (refine (iu_at rfl (by exact IP.out.belowA T4.out) HZ.out.2.2 HZ.out.1).mono ?_); rintro e a5 ⟨v5, rfl, ow5⟩; have b5 := ow5.2; have T5 := Lib.hid (below_then T4.out b5); obtain ⟨A5, c5, rfl, _⟩ := Own.slice ow5; clear ow5)
            | (go_at_call 10; (refine (laws_sameTextsS _ _ UQ _ (by exact OW2.out.below b3) (by exact OW3.out)).mono ?_); rintro e a4 ⟨rfl, q4⟩; have b4 := q4.below; have T4 := Lib.hid (below_then T3.out b4); clear q4)
            | (go_at_call 12; (refine (su_at HQN.out (by exact IQ.out.belowA T2.out) HQT.out HUQ.out).mono ?_); rintro e a3 ⟨v3, rfl, ow3⟩; have b3 := ow3.2; have T3 := Lib.hid (below_then T2.out b3); have OW3 := Lib.hid (ownS_is ow3); obtain ⟨A3, c3', rfl, _⟩ := Own.slice ow3; clear ow3)
            | (go_at_call 11; (refine (iu_at HQN.out (by exact IQ.out.belowA T1.out) HQT.out HUQ.out).mono ?_); rintro e a2 ⟨v2, rfl, ow2⟩; have b2 := ow2.2; have T2 := Lib.hid (below_then T1.out b2); have OW2 := Lib.hid (ownS_is ow2); obtain ⟨A2, c2, rfl, _⟩ := Own.slice ow2; clear ow2)
            | (go_at_call 7; (refine (pf_at HMN.out (by exact IM.out.drew) HM.out.2 HM.out.1).mono ?_); rintro e a1 ⟨rfl, b1⟩; have T1 := Lib.hid (below_then (Below.refl _ _).drew b1)))
        go_wp2_with fail
        go_ret
        exact ⟨rfl, below_then BT.out T10.out⟩
end Go.Proofs.Ytadcebdhgocmhaa
