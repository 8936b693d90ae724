/-
  A part of the proof of WitnessTexts: contracts of functions that the law reaches.
-/
import Derived.WalkKit
import Derived.OwnWalkIn
import Derived.KernelRfl
import Derived.Outline
import Derived.Lib.Hide
import Derived.WalkLawsBesides
import Derived.Laws.IdiomStrings
import Derived.Test.YtlohcmnckfndlaaDoorProg
import Derived.Test.YtlohcmnckfndlaaDoorPartPure2
namespace Go.Proofs.YtlohcmnckfndlaaDoor
open Go Go.RowKit

/-- Bytes as a string. -/
def bs (l : List UInt8) : ByteArray := ⟨l.toArray⟩

theorem bs_app (a b : List UInt8) : bs (a ++ b) = bs a ++ bs b := by
  unfold bs; apply ByteArray.ext; simp [ByteArray.data_append]

theorem bs_size (l : List UInt8) : (bs l).size = l.length := by simp [bs, ByteArray.size]

theorem ofRest {n : Int} (h0 : 0 ≤ n) : ((UInt8.ofNat (48 + n.toNat % 10)).toNat : Int) = 48 + n % 10 := by
  rw [digit_byte (by omega)]; omega

/-- The last digit. -/
def lastD (n : Int) : List UInt8 := [UInt8.ofNat (48 + n.toNat % 10)]

theorem cell_of_box_l {W : World} {B : Nat} {v : Value} {t : TypeId} (h : W.heap[B]? = some (.cells #[v] t (0, 0))) : W.cell? ⟨B, 0, none⟩ = some v ∧ W.frozen? ⟨B, 0, none⟩ = false := by
  constructor <;> simp [World.cell?, World.frozen?, h]
theorem cell_new_l (W : World) (v : Value) (t : TypeId) : (W.alloc (.cells #[v] t)).cell? ⟨W.heap.size, 0, none⟩ = some v ∧ (W.alloc (.cells #[v] t)).frozen? ⟨W.heap.size, 0, none⟩ = false :=
  cell_of_box_l (heap_alloc_new W _)

theorem digit_text (n : Int) (h0 : 0 ≤ n) (w : World) : (convert 48 9 (.slice (some ⟨w.heap.size, 0, none⟩) 1 1)).run Tryd.prog (w.alloc (.cells #[.int .u8 (48 + n % 10)] 5)) =
    .ok (.string (bs (lastD n))) (w.alloc (.cells #[.int .u8 (48 + n % 10)] 5)) := by
  refine run_convert_bytes_back (P := Tryd.prog) (w.alloc (.cells #[.int .u8 (48 + n % 10)] 5)) 48 9 5 ⟨w.heap.size, 0, none⟩ 1 [UInt8.ofNat (48 + n.toNat % 10)] Tryd.underlying48 Tryd.underlying5 Tryd.underlying9 ?_
  intro j hj
  obtain rfl : j = 0 := by simpa using hj
  rw [List.getElem_cons_zero, ofRest h0]
  exact (cell_new_l w _ _).1

theorem bs_small {n : Int} (h0 : 0 ≤ n) (hn : n < 10) : bs (lastD n) = bs (Lib.decDigits n.toNat) := by
  rw [Lib.decDigits, dif_pos (by omega), lastD, Nat.mod_eq_of_lt (by omega)]

theorem bs_more {n : Int} (hn : 10 ≤ n) : bs (Lib.decDigits (n / 10).toNat) ++ bs (lastD n) = bs (Lib.decDigits n.toNat) := by
  have e : (n / 10).toNat = n.toNat / 10 := by omega
  rw [Lib.decDigits.eq_1 n.toNat, dif_neg (by omega), ← bs_app, e]; rfl

set_option maxRecDepth 100000 in
theorem digits_t (k : Nat) : ∀ (n : Int) (w : World) (_ : 0 ≤ n) (_ : n ≤ 9223372036854775807) (_ : n.toNat ≤ k),
    Calls Tryd.prog 40 #[.int .i64 n] w fun e w' => e = .returned (.string (bs (Lib.decDigits n.toNat))) ∧ Below w.heap.size w w' := by
  induction k with
  | zero =>
    intro n w h0 h1 hk
    have hc := digit_text n h0 w
    have hb : Below w.heap.size w (w.alloc (.cells #[.int .u8 (48 + n % 10)] 5)) := (Below.refl _ w).alloc (Nat.le_refl _) _
    have hn : n < 10 := by omega
    have Hs := Lib.hid (bs_small h0 hn)
    go_enter Tryd.func40, Tryd.ntmps40
    go_wp2_with fail
    go_ret
    exact ⟨by rw [← Hs.out]; rfl, hb⟩
  | succ k ih =>
    intro n w h0 h1 hk
    have hc := digit_text n h0 w
    have hb : Below w.heap.size w (w.alloc (.cells #[.int .u8 (48 + n % 10)] 5)) := (Below.refl _ w).alloc (Nat.le_refl _) _
    by_cases hn : n < 10
    · have Hs := Lib.hid (bs_small h0 hn)
      go_enter Tryd.func40, Tryd.ntmps40
      go_wp2_with fail
      go_ret
      exact ⟨by rw [← Hs.out]; rfl, hb⟩
    · have Hs := Lib.hid (bs_more (n := n) (by omega))
      have hsz : (bs (Lib.decDigits (n / 10).toNat)).size + (bs (lastD n)).size ≤ 9223372036854775807 := by
        rw [bs_size, bs_size]; have := decDigits_le (u := (n / 10).toNat) (by omega); simp [lastD]; omega
      go_enter Tryd.func40, Tryd.ntmps40
      go_wp2_with (go_at_call 40; refine (ih (n / 10) _ (by omega) (by omega) (by omega)).mono ?_; rintro e w' ⟨rfl, hb2⟩)
      go_ret
      exact ⟨by rw [← Hs.out]; rfl, hb.trans (hb2.mono (by simp))⟩

theorem digits_any (n : Int) (w : World) (h0 : 0 ≤ n) (h1 : n ≤ 9223372036854775807) :
    Calls Tryd.prog 40 #[.int .i64 n] w fun e w' => e = .returned (.string (bs (Lib.decDigits n.toNat))) ∧ Below w.heap.size w w' := digits_t n.toNat n w h0 h1 (Nat.le_refl _)

theorem tdiv_neg {n : Int} (hn : n < 0) : n.tdiv 10 = -((n.natAbs / 10 : Nat) : Int) := by
  have e : n = -(n.natAbs : Int) := by omega
  rw [e, Int.neg_tdiv, Int.natAbs_neg, Int.natAbs_natCast]; rfl
theorem tmod_neg {n : Int} (hn : n < 0) : n.tmod 10 = -((n.natAbs % 10 : Nat) : Int) := by
  have e : n = -(n.natAbs : Int) := by omega
  rw [e, Int.neg_tmod, Int.natAbs_neg, Int.natAbs_natCast]; rfl

theorem num_big {n : Int} (hn : n < 0) (h : n.tdiv 10 ≠ 0) : bs [45] ++ bs (Lib.decDigits (-(n.tdiv 10)).toNat) ++ bs (Lib.decDigits (-(n.tmod 10)).toNat) = bs (Lib.itoa n) := by
  rw [tdiv_neg hn] at h ⊢
  rw [tmod_neg hn, Lib.itoa, if_pos hn, Int.neg_neg, Int.neg_neg, Int.toNat_natCast, Int.toNat_natCast]
  rw [Lib.decDigits.eq_1 (n.natAbs % 10), dif_pos (by omega), Lib.decDigits.eq_1 n.natAbs, dif_neg (by omega), ← bs_app, ← bs_app]; rfl

theorem num_small {n : Int} (hn : n < 0) (h : n.tdiv 10 = 0) : bs [45] ++ bs [] ++ bs (Lib.decDigits (-(n.tmod 10)).toNat) = bs (Lib.itoa n) := by
  rw [tdiv_neg hn] at h
  rw [tmod_neg hn, Lib.itoa, if_pos hn, Int.neg_neg, Int.toNat_natCast]
  rw [Nat.mod_eq_of_lt (by omega), ← bs_app, ← bs_app]; rfl

set_option maxRecDepth 100000 in
theorem number_any (n : Int) (w : World) (h : In64 n) :
    Calls Tryd.prog 30 #[.int .i64 n] w fun e w' => e = .returned (.string (bs (Lib.itoa n))) ∧ Below w.heap.size w w' := by
  obtain ⟨h0, h1⟩ := h
  by_cases hn : 0 ≤ n
  · have e : Lib.itoa n = Lib.decDigits n.toNat := by rw [Lib.itoa, if_neg (by omega)]
    rw [e]
    go_enter Tryd.func30, Tryd.ntmps30
    go_wp2_with (go_at_call 40; refine (digits_any n _ (by omega) (by omega)).mono ?_; rintro e w' ⟨rfl, hb2⟩)
    go_ret
    exact ⟨rfl, hb2⟩
  · have hn' : n < 0 := by omega
    have q0 : -922337203685477580 ≤ n.tdiv 10 := by rw [tdiv_neg hn']; omega
    have q1 : n.tdiv 10 ≤ 0 := by rw [tdiv_neg hn']; omega
    have r0 : -9 ≤ n.tmod 10 := by rw [tmod_neg hn']; omega
    have r1 : n.tmod 10 ≤ 0 := by rw [tmod_neg hn']; omega
    have s1 : (bs (Lib.decDigits (-(n.tdiv 10)).toNat)).size ≤ 19 := by rw [bs_size]; exact decDigits_le (by omega)
    have s2 : (bs (Lib.decDigits (-(n.tmod 10)).toNat)).size ≤ 19 := by rw [bs_size]; exact decDigits_le (by omega)
    by_cases hq : n.tdiv 10 = 0
    · have Hs := Lib.hid (num_small hn' hq)
      have hq' : (n.tdiv 10 != 0) = false := by rw [hq]; rfl
      clear hq
      go_enter Tryd.func30, Tryd.ntmps30
      go_wp2_with (go_at_call 40; refine (digits_any (-(n.tmod 10)) _ (by omega) (by omega)).mono ?_; rintro e w' ⟨rfl, hb2⟩)
      go_ret
      exact ⟨by rw [← Hs.out]; rfl, hb2⟩
    · have Hs := Lib.hid (num_big hn' hq)
      have hq' : (n.tdiv 10 != 0) = true := by rw [bne_iff_ne]; exact hq
      go_enter Tryd.func30, Tryd.ntmps30
      go_wp2_with fail
      refine (digits_any (-(n.tdiv 10)) _ (by omega) (by omega)).mono ?_; rintro e w1 ⟨rfl, hb1⟩
      go_wp2_with fail
      refine (digits_any (-(n.tmod 10)) _ (by omega) (by omega)).mono ?_; rintro e w' ⟨rfl, hb2⟩
      go_wp2_with fail
      go_ret
      exact ⟨by rw [← Hs.out]; rfl, hb1.trans (hb2.mono hb1.size)⟩

theorem itoa_le (n : Int) (h : In64 n) : (Lib.itoa n).length ≤ 20 := by
  obtain ⟨h0, h1⟩ := h
  unfold Lib.itoa
  split
  · have := decDigits_le (u := n.natAbs) (by omega); simp; omega
  · have := decDigits_le (u := n.toNat) (by omega); omega

/-- A number with a dot ahead. -/
def dotB (n : Int) : ByteArray := bs (46 :: Lib.itoa n)

theorem dotB_size (n : Int) (h : In64 n) : (dotB n).size ≤ 21 := by
  unfold dotB; rw [bs_size]; have := itoa_le n h; simp; omega

set_option maxRecDepth 100000 in
theorem dot_any (n : Int) (w : World) (h : In64 n) :
    Calls Tryd.prog 22 #[.int .i64 n] w fun e w' => e = .returned (.string (dotB n)) ∧ Below w.heap.size w w' := by
  have s1 : (bs (Lib.itoa n)).size ≤ 20 := by rw [bs_size]; exact itoa_le n h
  have Hs := Lib.hid (show bs [46] ++ bs (Lib.itoa n) = dotB n by rw [← bs_app]; rfl)
  go_enter Tryd.func22, Tryd.ntmps22
  go_wp2_with (go_at_call 30; refine (number_any n _ h).mono ?_; rintro e w' ⟨rfl, hb2⟩)
  go_ret
  exact ⟨by rw [← Hs.out]; rfl, hb2⟩
end Go.Proofs.YtlohcmnckfndlaaDoor
