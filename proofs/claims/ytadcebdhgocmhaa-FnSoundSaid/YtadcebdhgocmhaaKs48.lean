/- Several texts in one: VisitG. -/
import Derived.Test.YtadcebdhgocmhaaKs22
namespace Go.Proofs.Ytadcebdhgocmhaa
open Go.RowKit
set_option linter.unusedVariables false


mutual
def deepG (G : St → Prop) : St → Prop
  | .mk k s t b e => G (.mk k s t b e) ∧ deepGs G b ∧ deepGs G e
def deepGs (G : St → Prop) : List St → Prop
  | [] => True
  | g :: r => deepG G g ∧ deepGs G r
end
theorem deepGs_mem {G : St → Prop} {l : List St} (h : deepGs G l) {g : St} (hg : g ∈ l) : deepG G g := by
  induction l with
  | nil => cases hg
  | cons y r ih =>
    rw [deepGs] at h
    rcases List.mem_cons.1 hg with rfl | hg
    · exact h.1
    · exact ih h.2 hg
theorem deepGs_of {G : St → Prop} {l : List St} (h : ∀ g ∈ l, deepG G g) : deepGs G l := by
  induction l with
  | nil => rw [deepGs]; trivial
  | cons y r ih => rw [deepGs]; exact ⟨h y (by simp), ih fun g hg => h g (by simp [hg])⟩
/-- the closure's contract -/
structure Uses.OkG {σ : Type} (G : St → Prop) (U : Uses σ) : Prop where
  step : ∀ (st : σ) (n : Nat) (x : V8) (g : St) (w : World), U.Bd st (n + 1) → U.I st w → StIs (U.K st w) w x g → G g →
    Calls Try.prog U.k (#[.agg #[.int .i64 x.k, .string x.s, .int .i64 x.tk, .int .i64 x.tn, .string x.ts, .slice x.tA x.tm x.tc, .slice x.bA x.bm x.bc, .slice x.eA x.em x.ec]] ++ U.caps) w fun e w' =>
      e = .returned (.bool (U.f st g).2) ∧ U.I (U.f st g).1 w' ∧ Keep (U.K st w) w w' ∧ (∀ i, i < w.heap.size → U.K st w i → U.K (U.f st g).1 w' i) ∧ U.Bd (U.f st g).1 n
  enter : ∀ (args : Array Value) (w : World), (callFunc U.k args).run Try.prog w = .ok (.enter U.k args) w
  new : ∀ (st : σ) (w : World) (cs : Array Value), U.I st w → U.I st (w.alloc (.cells cs 36)) ∧ U.K st (w.alloc (.cells cs 36)) w.heap.size ∧ ∀ i, i < w.heap.size → U.K st w i → U.K st (w.alloc (.cells cs 36)) i
  less : ∀ (st : σ) (m n : Nat), m ≤ n → U.Bd st n → U.Bd st m
abbrev VsCG {σ : Type} (G : St → Prop) (U : Uses σ) (l : List St) : Prop := ∀ (st : σ) (n : Nat) (A : Option Addr) (c : Nat) (w : World), U.Bd st (n + snodess l) → U.I st w → StRow (U.K st w) w A l → l.length ≤ c → c ≤ maxLen → deepGs G l →
  Calls Try.prog 35 #[.slice A l.length c, .func (.func U.k) #[] U.caps] w fun e w' =>
    e = .returned (.bool (visTs U.f st l).2) ∧ U.I (visTs U.f st l).1 w' ∧ Keep (U.K st w) w w' ∧ (∀ i, i < w.heap.size → U.K st w i → U.K (visTs U.f st l).1 w' i) ∧ U.Bd (visTs U.f st l).1 n
set_option maxHeartbeats 1600000 in
set_option maxRecDepth 100000 in
theorem impl_visitStmtsG_at {σ : Type} (G : St → Prop) (U : Uses σ) (ok : U.OkG G) (l : List St) (ih : ∀ g ∈ l, ∀ t k s body els, g = .mk k s t body els → VsCG G U body ∧ VsCG G U els) : VsCG G U l := by
  intro st n A c w hbd hI row hl hc hG
  unfold maxLen at hc
  have OK := Lib.hid ok
  have IH := Lib.hid ih
  have RW := Lib.hid row
  have BD := Lib.hid hbd
  have II := Lib.hid hI
  have HGG := Lib.hid hG
  clear ok ih row hbd hI hG
  go_enter Try.func35, Try.ntmps35
  go_wp2_with fail
  go_loopw [9] (fun i wr => ∃ j : Nat, j ≤ l.length ∧ i = .int .i64 j ∧ Hid ((visTs U.f st (l.take j)).2 = true ∧ U.I (visTs U.f st (l.take j)).1 wr ∧ Keep (U.K st w) w wr ∧ (∀ i, i < w.heap.size → U.K st w i → U.K (visTs U.f st (l.take j)).1 wr i) ∧ U.Bd (visTs U.f st (l.take j)).1 (n + snodess (l.drop j)))) (fun i _ => l.length - (intOf i).toNat)
  case atStart => exact ⟨0, Nat.zero_le _, rfl, Lib.hid ⟨rfl, II.out, Keep.refl _ _, fun _ _ h => h, BD.out⟩⟩
  case round =>
    obtain ⟨j, hj, rfl, HR⟩ := hrel
    by_cases hlt : j < l.length
    · obtain ⟨hv, hIj, hkp, hmon, hbd⟩ := HR.out
      have hsn := snodess_drop l j hlt
      have htk := visTs_take U.f st l j hlt hv
      have hstop := visTs_stop U.f st l (j + 1) hlt
      generalize hst : (visTs U.f st (l.take j)).1 = sj at *
      obtain ⟨b, off, x, rfl, _, ⟨d0, d1, d2, d3, d4, d5, d6, d7⟩, hg⟩ := rd_stmt (RW.out.kept hkp hmon) hlt
      have hgg := deepGs_mem HGG.out (List.getElem_mem hlt)
      obtain ⟨t, body, els, heq, _, _, _, hb1, hb2, hb3, rb, he1, he2, he3, re⟩ := hg.inv
      have VB := Lib.hid (IH.out l[j] (List.getElem_mem hlt) t _ _ body els heq).1
      have VE := Lib.hid (IH.out l[j] (List.getElem_mem hlt) t _ _ body els heq).2
      have G0 : Hid (G l[j]) := Lib.hid (by rw [heq] at hgg ⊢; rw [deepG] at hgg; exact hgg.1)
      have GB : Hid (deepGs G body) := Lib.hid (by rw [heq] at hgg; rw [deepG] at hgg; exact hgg.2.1)
      have GE : Hid (deepGs G els) := Lib.hid (by rw [heq] at hgg; rw [deepG] at hgg; exact hgg.2.2)
      clear hgg
      have hsg : snodes l[j] = 1 + snodess body + snodess els := by rw [heq, snodes]
      have BD1 : Hid (U.Bd sj ((n + snodess (l.drop (j + 1)) + snodess els + snodess body) + 1)) := Lib.hid (by rw [show n + snodess (l.drop (j + 1)) + snodess els + snodess body + 1 = n + snodess (l.drop j) from by omega]; exact hbd)
      have VT : Hid (visT U.f sj l[j] = match U.f sj l[j] with | (s1, false) => (s1, false) | (s1, true) => match visTs U.f s1 body with | (s2, false) => (s2, false) | (s2, true) => visTs U.f s2 els) := Lib.hid (by rw [heq, visT]; rfl)
      have HTK := Lib.hid htk
      have HSTOP := Lib.hid hstop
      have IJ := Lib.hid hIj
      have KP := Lib.hid hkp
      have MON := Lib.hid hmon
      have HG := Lib.hid hg
      have RB := Lib.hid rb
      have RE := Lib.hid re
      obtain ⟨xk, xs, tk, tn, ts, tA, tm, tc, bA, bm, bc, eA, em, ec⟩ := x
      simp only at hb1 he1 hb2 hb3 he2 he3 d0 d1 d2 d3 d4 d5 d6 d7 RB RE
      subst hb1 he1
      have h0k : (0 : Int) ≤ (j : Int) := by omega
      have hent := OK.out.enter
      clear hv hIj hkp hmon hbd hsn htk hstop hst hg rb re heq hsg HR
      go_wp2_with fail
      obtain ⟨n1, n2, n3⟩ := OK.out.new sj wr #[.int .i64 xk, .string xs, .int .i64 tk, .int .i64 tn, .string ts, .slice tA tm tc, .slice bA body.length bc, .slice eA els.length ec] IJ.out
      refine (OK.out.step sj _ ⟨xk, xs, tk, tn, ts, tA, tm, tc, bA, body.length, bc, eA, els.length, ec⟩ l[j] _ BD1.out n1 (HG.out.kept (Keep.of_below (Below.alloc (Below.refl _ _) (Nat.le_refl _) _)) n3) G0.out).mono ?_
      rintro e w1 ⟨rfl, i1, k1, m1, bd1⟩
      have FAR := Lib.hid n2
      have HN3 := Lib.hid n3
      clear n1 n2 n3
      have u6 : w1.cell? ⟨wr.heap.size, 6, none⟩ = some (.slice bA body.length bc) := k1.cellEq FAR.out (by rw [World.cell?_alloc_new]; rfl)
      have u7 : w1.cell? ⟨wr.heap.size, 7, none⟩ = some (.slice eA els.length ec) := k1.cellEq FAR.out (by rw [World.cell?_alloc_new]; rfl)
      have KW1 := Lib.hid (Keep.trans (Keep.of_below (S := U.K sj wr) (Below.alloc (Below.refl _ _) (Nat.le_refl _) _)) k1 HN3.out)
      have M1 : Hid (∀ i, i < wr.heap.size → U.K sj wr i → U.K (U.f sj l[j]).1 w1 i) := Lib.hid (fun i hi h => m1 i (by simp; omega) (HN3.out i hi h))
      have MF : Hid (U.K (U.f sj l[j]).1 w1 wr.heap.size) := Lib.hid (m1 _ (by simp) FAR.out)
      have I1 := Lib.hid i1
      have BD2 := Lib.hid bd1
      have hz1 : wr.heap.size < w1.heap.size := by have := k1.size; simp at this; omega
      clear i1 k1 m1 bd1 d0 d1 d2 d3 d4 d5 d6 d7 BD1
      generalize hf : U.f sj l[j] = r1 at *
      obtain ⟨s1, b1⟩ := r1
      simp only at I1 BD2 M1 MF
      cases b1
      · have E := VT.out
        simp only at E
        have HE := Lib.hid E
        clear E hf
        go_wp2_with fail
        go_ret
        have e1 := HTK.out.trans HE.out
        have e2 := HSTOP.out (by rw [e1])
        rw [e2, e1]
        exact ⟨rfl, I1.out, KP.out.trans KW1.out MON.out, fun i hi h => M1.out i (by have := KP.out.size; omega) (MON.out i hi h), OK.out.less _ _ _ (by omega) BD2.out⟩
      · have E := VT.out
        simp only at E
        have HE := Lib.hid E
        clear E hf
        go_wp2_with fail
        refine (VB.out s1 _ bA bc _ BD2.out I1.out (RB.out.kept KW1.out (fun i hi h => M1.out i hi h)) hb2 hb3 GB.out).mono ?_
        rintro e w2 ⟨rfl, i2, k2, m2, bd2⟩
        have v7 : w2.cell? ⟨wr.heap.size, 7, none⟩ = some (.slice eA els.length ec) := k2.cellEq MF.out u7
        have KW2 := Lib.hid (Keep.trans KW1.out k2 (fun i hi h => M1.out i hi h))
        have M2 : Hid (∀ i, i < wr.heap.size → U.K sj wr i → U.K (visTs U.f s1 body).1 w2 i) := Lib.hid (fun i hi h => m2 i (by omega) (M1.out i hi h))
        have I2 := Lib.hid i2
        have BD3 := Lib.hid bd2
        have hz2 : wr.heap.size < w2.heap.size := by have := k2.size; omega
        clear i2 k2 m2 bd2 u6 u7 BD2 VT
        generalize hf2 : visTs U.f s1 body = r2 at *
        obtain ⟨s2, b2⟩ := r2
        simp only at I2 BD3 M2
        cases b2
        · have E := HE.out
          simp only at E
          have HE2 := Lib.hid E
          clear E hf2 HE
          go_wp2_with fail
          go_ret
          have e1 := HTK.out.trans HE2.out
          have e2 := HSTOP.out (by rw [e1])
          rw [e2, e1]
          exact ⟨rfl, I2.out, KP.out.trans KW2.out MON.out, fun i hi h => M2.out i (by have := KP.out.size; omega) (MON.out i hi h), OK.out.less _ _ _ (by omega) BD3.out⟩
        · have E := HE.out
          simp only at E
          have HE2 := Lib.hid E
          clear E hf2 HE
          go_wp2_with fail
          refine (VE.out s2 _ eA ec _ BD3.out I2.out (RE.out.kept KW2.out (fun i hi h => M2.out i hi h)) he2 he3 GE.out).mono ?_
          rintro e w3 ⟨rfl, i3, k3, m3, bd3⟩
          have KW3 := Lib.hid (Keep.trans KW2.out k3 (fun i hi h => M2.out i hi h))
          have M3 : Hid (∀ i, i < wr.heap.size → U.K sj wr i → U.K (visTs U.f s2 els).1 w3 i) := Lib.hid (fun i hi h => m3 i (by omega) (M2.out i hi h))
          have I3 := Lib.hid i3
          have BD4 := Lib.hid bd3
          clear i3 k3 m3 bd3 v7 BD3
          generalize hf3 : visTs U.f s2 els = r3 at *
          obtain ⟨s3, b3⟩ := r3
          simp only at I3 BD4 M3
          have HE3 := Lib.hid (HTK.out.trans HE2.out)
          clear hf3 HE2 HTK
          cases b3
          · go_wp2_with fail
            go_ret
            have e2 := HSTOP.out (by rw [HE3.out])
            rw [e2, HE3.out]
            exact ⟨rfl, I3.out, KP.out.trans KW3.out MON.out, fun i hi h => M3.out i (by have := KP.out.size; omega) (MON.out i hi h), OK.out.less _ _ _ (by omega) BD4.out⟩
          · go_wp2_with fail
            go_roundw
            case rel => exact ⟨j + 1, by omega, by go_num, Lib.hid (by rw [HE3.out]; exact ⟨rfl, I3.out, KP.out.trans KW3.out MON.out, fun i hi h => M3.out i (by have := KP.out.size; omega) (MON.out i hi h), BD4.out⟩)⟩
            case measure => simp [intOf]; omega
    · go_wp2_with fail
      go_ret
      have := HR.out
      rw [List.take_of_length_le (by omega), List.drop_of_length_le (by omega)] at this
      exact ⟨ret_bool this.1.symm, this.2.1, this.2.2.1, this.2.2.2.1, this.2.2.2.2⟩
theorem impl_visitStmtsG {σ : Type} (G : St → Prop) (U : Uses σ) (ok : U.OkG G) (l : List St) : VsCG G U l := by
  induction hN : snodess l using Nat.strongRecOn generalizing l with
  | ind N ih =>
    refine impl_visitStmtsG_at G U ok l fun g hg t k s body els e => ?_
    have := snodess_le hg
    have h2 : snodes g = 1 + snodess body + snodess els := by rw [e, snodes]
    exact ⟨ih _ (by omega) body rfl, ih _ (by omega) els rfl⟩
end Go.Proofs.Ytadcebdhgocmhaa
