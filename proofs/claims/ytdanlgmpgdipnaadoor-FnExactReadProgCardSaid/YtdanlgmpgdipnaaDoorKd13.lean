/- Several texts in one: Mark, Signs, Later, TxtImpl. -/
import Derived.Test.YtdanlgmpgdipnaaDoorKd2
import Derived.Test.YtdanlgmpgdipnaaDoorKd4
import Derived.Deep.RegionHeld3
import Derived.Test.YtdanlgmpgdipnaaDoorKd12
import Derived.Deep.QuietTactic
import Derived.BigQuiet
import Derived.Test.YtdanlgmpgdipnaaDoorKd9
import Derived.Deep.CutRange
namespace Go.Proofs.YtdanlgmpgdipnaaDoor
open Go.RowKit
set_option linter.unusedVariables false


/-- the decimal figures of a number above 0; nothing of 0 -/
def decL (k : Nat) : List UInt8 := if k = 0 then [] else decL (k / 10) ++ [UInt8.ofNat (48 + k % 10)]
theorem decL_zero : decL 0 = [] := by rw [decL]; rfl
theorem decL_pos {k : Nat} (h : 0 < k) : decL k = decL (k / 10) ++ [UInt8.ofNat (48 + k % 10)] := by rw [decL, if_neg (by omega)]
theorem decL_step {k : Nat} (h : 0 < k) (acc : List UInt8) : decL (k / 10) ++ (UInt8.ofNat (48 + k % 10) :: acc) = decL k ++ acc := by rw [decL_pos h]; simp
def markT (k : Nat) : ByteArray := ⟨(109 :: decL k).toArray⟩
def chr (n : Int) : UInt8 := UInt8.ofNat n.toNat
theorem one_byte (W : World) (n : Int) (h0 : 0 ≤ n) (h1 : n < 256) : (convert 92 9 (.slice (some ⟨W.heap.size, 0, none⟩) 1 1)).run Tryd.prog (W.alloc (.cells #[.int .u8 n] 5)) = .ok (.string ⟨#[chr n]⟩) (W.alloc (.cells #[.int .u8 n] 5)) := by
  have e : (n : Int) = ((UInt8.ofNat n.toNat).toNat : Int) := by rw [UInt8.toNat_ofNat']; omega
  have := Rd.new W 1 1 #[.int .u8 ((UInt8.ofNat n.toNat).toNat : Int)] 5 rfl
  rw [← e] at this
  exact str_run 1 (l := [UInt8.ofNat n.toNat]) (by rw [bv_cons, ← e]; exact this)
theorem cat_str (a : UInt8) (l : List UInt8) : (⟨#[a]⟩ : ByteArray) ++ ⟨l.toArray⟩ = ⟨(a :: l).toArray⟩ := by
  apply str_ext; simp
theorem str_len (l : List UInt8) : (⟨l.toArray⟩ : ByteArray).size = l.length := by simp [ByteArray.size]
theorem str_len1 (c : UInt8) : (⟨#[c]⟩ : ByteArray).size = 1 := rfl
set_option maxHeartbeats 400000 in
theorem laws_markText (k : Nat) (w : World) (h : 0 < k) (hk : k ≤ 1000000000000) : Calls Tryd.prog 36 #[.int .i64 (k : Int)] w fun e w' => e = .returned (.string (markT k)) ∧ Below w.heap.size w w' := by
  have hd : decide (k = 0) = false := decide_no (by omega)
  go_enter Tryd.func36, Tryd.ntmps36
  go_wp2_with fail
  go_loopw [0, 3] (fun n v wr => ∃ (m : Nat) (acc : List UInt8), acc.length + m ≤ k ∧ n = .int .i64 m ∧ v = .string ⟨acc.toArray⟩ ∧ Hid (decL m ++ acc = decL k) ∧ Below w.heap.size w wr) (fun n _ _ => (intOf n).toNat)
  case atStart => exact ⟨k, [], by simp, rfl, rfl, Lib.hid (by simp), Below.refl _ _⟩
  case round =>
    obtain ⟨m, acc, hm, rfl, rfl, HD, hb⟩ := hrel
    have HB := Lib.hid hb
    clear hb
    by_cases h0 : 0 < m
    · have HS := Lib.hid (decL_step h0 acc)
      have hc := fun W => one_byte W (48 + (m : Int) % 10) (by omega) (by omega)
      have hl := str_len acc
      have hl1 := str_len1 (chr (48 + (m : Int) % 10))
      generalize he : (⟨acc.toArray⟩ : ByteArray) = a at *
      generalize hf : chr (48 + (m : Int) % 10) = d at *
      have HE := Lib.hid he
      have HF := Lib.hid hf
      clear he hf
      go_wp2_with fail
      go_roundw
      case rel =>
        refine ⟨m / 10, UInt8.ofNat (48 + m % 10) :: acc, by simp; omega, by go_num, ?_, Lib.hid (HS.out.trans HD.out), HB.out.alloc HB.out.size _⟩
        have e1 := cat_str d acc
        rw [HE.out] at e1
        rw [e1, ← HF.out]; rfl
      case measure => simp [intOf]; omega
    · have e : m = 0 := by omega
      have HE := Lib.hid e
      clear e
      go_wp2_with fail
      go_ret
      refine ⟨ret_str ?_, HB.out⟩
      have := HD.out
      rw [HE.out, decL_zero, List.nil_append] at this
      rw [← cat_str, this]; rfl
/-- the texts that markStringS leaves: from k on -/
def marksS (n k : Nat) : List ByteArray := (List.range n).map fun i => markT (k + i)
theorem marksS_get (n k i : Nat) (h : i < n) : (marksS n k)[i]? = some (markT (k + i)) := by simp [marksS, h]
theorem marksS_length (n k : Nat) : (marksS n k).length = n := by simp [marksS]
/-- v is the call's own row of the texts ss -/
def OwnStrs (w0 w : World) (v : Value) (ss : List ByteArray) : Prop := Own w0 w 9 1 v ss.length (ss.map Value.string)
theorem OwnStrs.is {w0 w : World} {v : Value} {ss : List ByteArray} (h : OwnStrs w0 w v ss) : ∃ A c, v = .slice A ss.length c ∧ ss.length ≤ c ∧ Rd w 1 A ss.length (ss.map Value.string) := by
  obtain ⟨A, c, e, hc⟩ := h.slice
  subst e
  exact ⟨A, c, rfl, hc, h.rd⟩
theorem OwnStrs.below {w0 w w' : World} {v : Value} {ss : List ByteArray} (h : OwnStrs w0 w v ss) (hb : Below w.heap.size w w') : OwnStrs w0 w' v ss := Own.below h hb
theorem own_cap {w : World} {base : Nat} {e : TypeId} {sz n c : Nat} {A : Option Addr} {xs : List Value} (h : w.ownsRow base e sz (.slice A n c) n xs) : c ≤ maxLen := by
  rcases h.2 with ⟨h1, _⟩ | ⟨g, cap, cur, h1, _, _, _, hm, _⟩
  · injection h1 with _ _ h2; subst h2; simp [maxLen]
  · injection h1 with _ _ h2; subst h2; exact hm
set_option maxHeartbeats 400000 in
theorem laws_heldStringS (v : Value) (n k : Nat) (w : World) (h : IsStrs w v (marksS n k)) (h0 : 0 < k) (h1 : n ≤ 10000000) (h2 : k ≤ 100000000) :
    Calls Tryd.prog 23 #[v, .int .i64 (k : Int)] w fun e w' => e = .returned (.int .i64 ((k + n : Nat) : Int)) ∧ Below w.heap.size w w' := by
  obtain ⟨A, c, rfl, h3, h4, rd⟩ := h
  have RD := Lib.hid rd
  clear rd
  have hn := marksS_length n k
  rw [hn] at RD h3
  rw [hn]
  clear hn
  go_enter Tryd.func23, Tryd.ntmps23
  go_wp2_with fail
  go_loopw [1, 5] (fun x i wr => ∃ m : Nat, m ≤ n ∧ i = .int .i64 m ∧ x = .int .i64 ((k + m : Nat) : Int) ∧ Below w.heap.size w wr) (fun _ i _ => n - (intOf i).toNat)
  case atStart => exact ⟨0, Nat.zero_le _, rfl, rfl, Below.refl _ _⟩
  case round =>
    obtain ⟨m, hm, rfl, rfl, hb⟩ := hrel
    have HB := Lib.hid hb
    clear hb
    by_cases hlt : m < n
    · obtain ⟨b, off, rfl, hc⟩ := RD.out.2 (by omega)
      have hcell0 := hc m (.string (markT (k + m))) (by simp [marksS, hlt])
      have hcell : wr.cell? ⟨b, off + m, none⟩ = some (.string (markT (k + m))) := (HB.out.cell (cell_lt hcell0)).trans hcell0
      have hlt0 := cell_lt hcell
      have h0m : (0 : Int) ≤ (m : Int) := by omega
      have h1m : (m : Int) < (n : Int) := by omega
      have he : ((markT (k + m)).toList == (markT (k + m)).toList) = true := by simp
      have ec : (k : Int) + (m : Int) = ((k + m : Nat) : Int) := by omega
      have EC := Lib.hid ec
      clear hc hcell0 ec
      go_wp2_with fail
      go_region_held3 (fun w' => w'.cell? ⟨b, off + m, none⟩ = some (.string (markT (k + m)))) (first | go_keep | (rw [b1.cell (by simpa using hlt0)]; assumption) | (rw [b1.cell (by simpa using hlt0)]; exact hcell))
        (first | (go_at_call 36; rw [EC.out]; refine (laws_markText (k + m) _ (by omega) (by omega)).mono ?_; rintro e w1 ⟨rfl, b1⟩))
      all_goals
        go_wp2_with fail
        go_roundw
        case rel => exact ⟨m + 1, by omega, by go_num, by go_num, HB.out.drew.trans (b1.mono HB.out.size)⟩
        case measure => simp [intOf]; omega
    · go_wp2_with fail
      go_ret
      exact ⟨ret_int (by omega), HB.out⟩

/-- v is a slice that reads as signs -/
def IsSgs (w : World) (v : Value) (l : List Sg) : Prop := ∃ A c, v = .slice A l.length c ∧ l.length ≤ c ∧ c ≤ maxLen ∧ Rd w 3 A l.length (l.flatMap sgF)
theorem IsSgs.below {w w' : World} {v : Value} {l : List Sg} (h : IsSgs w v l) (hb : Below w.heap.size w w') : IsSgs w' v l := by
  obtain ⟨A, c, e, h1, h2, h3⟩ := h
  exact ⟨A, c, e, h1, h2, h3.below hb⟩
theorem OutS.is {w0 w : World} {v : Value} {l : List Sg} (h : OutS w0 w v l) : IsSgs w v l := by
  obtain ⟨A, c, rfl, hc⟩ := Own.slice h
  exact ⟨A, c, rfl, hc, own_cap h.1, Own.rd h⟩
theorem rd_sg {w : World} {A : Option Addr} {l : List Sg} (rd : Rd w 3 A l.length (l.flatMap sgF)) {k : Nat} (hk : k < l.length) :
    ∃ b off, A = some ⟨b, off, none⟩ ∧ w.cell? ⟨b, off + k * 3, none⟩ = some (.int .i64 l[k].k) ∧ w.cell? ⟨b, off + k * 3 + 1, none⟩ = some (.string l[k].t) ∧ w.cell? ⟨b, off + k * 3 + 2, none⟩ = some (.int .i64 (l[k].p : Int)) := by
  obtain ⟨b, off, e, hc⟩ := rd.2 (by omega)
  refine ⟨b, off, e, ?_, ?_, ?_⟩
  · have := hc (k * 3) _ ((flat_get sgF 3 sgF_len l k 0 hk (by omega)).trans rfl)
    exact this
  · have := hc (k * 3 + 1) _ ((flat_get sgF 3 sgF_len l k 1 hk (by omega)).trans rfl)
    rw [Nat.add_assoc]; exact this
  · have := hc (k * 3 + 2) _ ((flat_get sgF 3 sgF_len l k 2 hk (by omega)).trans rfl)
    rw [Nat.add_assoc]; exact this
theorem laws_eqFault (a c : Int) (w : World) : Calls Tryd.prog 7 #[.agg #[.int .i64 a, .int .i64 c], .agg #[.int .i64 a, .int .i64 c]] w fun e w' => e = .returned (.bool true) ∧ Below w.heap.size w w' := by
  have q1 : (a != a) = false := by simp
  have q2 : (c != c) = false := by simp
  go_enter Tryd.func7, Tryd.ntmps7
  go_wp2_with fail
  go_ret
  exact ⟨rfl, (by repeat' (first | exact Below.refl _ _ | exact Nat.le_refl _ | (refine Below.alloc ?_ ?_ _) | (refine Below.setCell ?_ ?_ _) | (refine Below.drew ?_) | (refine below_drewN ?_ _) | assumption | (simp; done) | (simp; omega)))⟩

/-- the worlds in which all that w had is as it was -/
def Later (w : World) : Type := { w' : World // Below w.heap.size w w' }
instance later_any (w : World) : Nonempty (Later w) := ⟨⟨w, Below.refl _ _⟩⟩
/-- one walk of the text's order serves every order, where each operation yields one value in every later world -/
theorem wp_region_later {P : Program} {id : Nat} {Q : Exit → Act → World → Prop} {a : Act} {w : World} {l : List Oper} (hm : P.follows .mixedOrders = true) (hB : Region.lexB .any l.toArray = true)
    (h : ∀ (g : Later w → World), (∀ n, Below w.heap.size w (g n)) → (∀ n w', Below (g n).heap.size (g n) w' → ∃ m, w' = g m) →
      wpQuiet P l.toArray (fun w' => ∃ n, w' = g n) (fun a' => ∀ w', (∃ n, w' = g n) → Q .normal a' w') l a) : (Code.region id l.toArray true).wp P Q a w :=
  wp_region_quiet (C := fun w' => ∃ n : Later w, w' = n.val) hm hB ⟨⟨_, (Below.refl w.heap.size w).drew⟩, rfl⟩
    (by simpa using h (fun n => n.val) (fun n => n.property) (fun n w' hw => ⟨⟨w', n.property.trans (hw.mono n.property.size)⟩, rfl⟩))
/-- a contract that keeps what there was, met in such a world -/
theorem later_of {P : Program} {f : FuncId} {args : Array Value} {w : World} {g : Later w → World} {n : Later w} {v : Value} (HC : Hid (∀ n w', Below (g n).heap.size (g n) w' → ∃ m, w' = g m))
    (h : Calls P f args (g n) fun e w' => e = .returned v ∧ Below (g n).heap.size (g n) w') : Calls P f args (g n) fun e w'' => e = .returned v ∧ ∃ m, w'' = g m :=
  h.mono fun _ _ ⟨he, hb⟩ => ⟨he, HC.out n _ hb⟩
theorem later_same {P : Program} {f : FuncId} {args : Array Value} {w : World} {g : Later w → World} {n : Later w} {v : Value}
    (h : Calls P f args (g n) fun e w' => e = .returned v ∧ g n = w') : Calls P f args (g n) fun e w'' => e = .returned v ∧ ∃ m, w'' = g m :=
  h.mono fun _ _ ⟨he, hw⟩ => ⟨he, n, hw.symm⟩
theorem later_bool {P : Program} {f : FuncId} {args : Array Value} {w : World} {g : Later w → World} {n : Later w} {b b' : Bool} (HC : Hid (∀ n w', Below (g n).heap.size (g n) w' → ∃ m, w' = g m)) (hb : b = b')
    (h : Calls P f args (g n) fun e w' => e = .returned (.bool b) ∧ Below (g n).heap.size (g n) w') : Calls P f args (g n) fun e w'' => e = .returned (.bool b') ∧ ∃ m, w'' = g m := by
  subst hb
  exact later_of HC h

theorem impl_termSign (k : Int) (hk : k = 3 ∨ k = 4 ∨ k = 5 ∨ k = 6 ∨ k = 7 ∨ k = 9) (w : World) : Calls Tryd.prog 81 #[.int .i64 k] w fun e w' => e = .returned (.string (signB k)) ∧ w = w' := by
  rcases hk with rfl | rfl | rfl | rfl | rfl | rfl
  all_goals
    go_enter Tryd.func81, Tryd.ntmps81
    go_wp2_with fail
    go_ret
    exact ⟨rfl, rfl⟩
end Go.Proofs.YtdanlgmpgdipnaaDoor
