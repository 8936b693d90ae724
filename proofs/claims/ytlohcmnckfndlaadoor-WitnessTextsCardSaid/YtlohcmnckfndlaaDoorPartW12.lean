/-
  A part of the proof of WitnessTexts: contracts of functions that the law reaches.
-/
import Derived.Test.YtlohcmnckfndlaaDoorPartW11
namespace Go.Proofs.YtlohcmnckfndlaaDoor
open Go Go.RowKit

abbrev six0 : Array Value := #[.int .i64 0, .int .i64 0, .int .i64 0, .int .i64 0, .int .i64 0, .int .i64 0]
theorem make6 (w : World) : (Instr.makeSlice 60 (.int .i64 6) (.int .i64 6)).run Tryd.prog w = .ok (.slice (some ⟨w.heap.size, 0, none⟩) 6 6) (w.alloc (.cells six0 3)) := by
  obtain ⟨i0, hi0, hz0, hz1, hz2⟩ := info_parts info3
  have h := run_make (P := Tryd.prog) w 60 3 i0 (.int .i64 0) Tryd.underlying60 hi0 hz0 .i64 .i64 6 6 (by omega) (by omega) (by rw [hz2]; decide) (by omega)
  rw [hz1] at h
  have e : madeCells (Value.int .i64 0).cells (Int.toNat 6 * 1) = six0 := by kernel_rfl
  rw [e] at h
  exact h

/-- What the numbers' row holds behind k rounds. -/
def NumRow (MB : Nat) (l : List UInt8) (k : Nat) (w : World) : Prop := ∀ j, j < 6 → w.cell? ⟨MB, j, none⟩ = some (.int .i64 (if j < k then numAt l j else 0)) ∧ w.frozen? ⟨MB, j, none⟩ = false

theorem NumRow.new (w : World) (l : List UInt8) : NumRow w.heap.size l 0 (w.alloc (.cells six0 3)) := by
  intro j hj
  have e : (w.alloc (.cells six0 3)).heap[w.heap.size]? = some (.cells six0 3 (0, 0)) := heap_alloc_new w _
  rw [blk_cell e]
  refine ⟨?_, blk_free e j⟩
  match j, hj with
  | 0, _ => rfl
  | 1, _ => rfl
  | 2, _ => rfl
  | 3, _ => rfl
  | 4, _ => rfl
  | 5, _ => rfl

theorem NumRow.below {MB : Nat} {l : List UInt8} {k : Nat} {w w' : World} (hb : Below w.heap.size w w') (hl : MB < w.heap.size) (h : NumRow MB l k w) : NumRow MB l k w' := fun j hj =>
  ⟨(hb.cell (p := ⟨MB, j, none⟩) hl).trans (h j hj).1, (hb.frozen (p := ⟨MB, j, none⟩) hl).trans (h j hj).2⟩

theorem NumRow.put {MB : Nat} {l : List UInt8} {k : Nat} {w : World} (h : NumRow MB l k w) (hk : k < 6) : NumRow MB l (k + 1) (w.setCell ⟨MB, k, none⟩ (.int .i64 (numAt l k))) := by
  intro j hj
  refine ⟨?_, (World.frozen?_setCell _ _ _ _).trans (h j hj).2⟩
  by_cases e : j = k
  · subst e
    rw [World.cell?_setCell_same _ _ _ (h j hj).1, if_pos (by omega)]
  · rw [World.cell?_setCell_other _ _ _ _ (by simp), (h j hj).1]
    by_cases hjk : j < k
    · rw [if_pos hjk, if_pos (by omega)]
    · rw [if_neg hjk, if_neg (by omega)]

theorem numAt_none {l : List UInt8} {j : Nat} (h : (parts 46 l).length ≤ j + 1) : numAt l j = 0 := by
  rw [numAt, List.getElem?_eq_none h]

theorem NumRow.full {MB M : Nat} {l : List UInt8} {w : World} (h : NumRow MB l M w) (hM : M = 5 ∨ M + 1 = (parts 46 l).length) (j : Nat) (hj : j < 5) : w.cell? ⟨MB, j, none⟩ = some (.int .i64 (numAt l j)) := by
  rw [(h j (by omega)).1]
  by_cases e : j < M
  · rw [if_pos e]
  · rw [if_neg e, numAt_none (by omega)]

theorem pickP_g {l : List UInt8} (h : (parts 46 l)[0]? = some [103]) : pickP l = ⟨1, numAt l 0, 0, 0, 0, 0⟩ := by rw [pickP, if_pos h]
theorem pickP_m {l : List UInt8} (h : (parts 46 l)[0]? = some [109]) : pickP l = ⟨2, numAt l 0, numAt l 1, numAt l 2, numAt l 3, 0⟩ := by rw [pickP, if_neg (by rw [h]; simp), if_pos h]
theorem pickP_a {l : List UInt8} (h : (parts 46 l)[0]? = some [97]) : pickP l = ⟨3, numAt l 0, numAt l 1, numAt l 3, numAt l 4, numAt l 2⟩ := by rw [pickP, if_neg (by rw [h]; simp), if_neg (by rw [h]; simp), if_pos h]
theorem pickP_no {l hd : List UInt8} (h : (parts 46 l)[0]? = some hd) (h1 : hd ≠ [103]) (h2 : hd ≠ [109]) (h3 : hd ≠ [97]) : pickP l = ⟨0, 0, 0, 0, 0, 0⟩ := by
  rw [pickP, if_neg (by rw [h]; simpa using h1), if_neg (by rw [h]; simpa using h2), if_neg (by rw [h]; simpa using h3)]

theorem wpick_end {l : List UInt8} {w0 w : World} {a : Act} {B : Nat} {q p : Pk} (hp : a.tmps.getD 2 undef = .pointer (some ⟨B, 0, none⟩)) (hd : a.defers = [])
    (hat : PkAt B q w) (hB : Below B w0 w) (hout : pickP l = p) :
    bodyPost Tryd.prog Tryd.f14 (fun e w' => e = .returned (.agg (pkCells (pickP l))) ∧ Below B w0 w') .ret a (six B p w) := by
  refine pk_ret1 (p := p) rfl hp (six_at hat) hd ?_
  rw [hout]
  exact ⟨rfl, six_below (Nat.le_refl _) hB⟩
theorem wpick_end_drew {l : List UInt8} {w0 w : World} {a : Act} {B : Nat} {q p : Pk} (hp : a.tmps.getD 2 undef = .pointer (some ⟨B, 0, none⟩)) (hd : a.defers = [])
    (hat : PkAt B q w) (hB : Below B w0 w) (hout : pickP l = p) :
    bodyPost Tryd.prog Tryd.f14 (fun e w' => e = .returned (.agg (pkCells (pickP l))) ∧ Below B w0 w') .ret a (six B p w).drew := by
  have h : (six B p w).drew = six B p w.drew := by simp only [six, World.setCell_drew]
  rw [h]
  exact wpick_end hp hd hat hB.drew hout

set_option maxRecDepth 100000 in
set_option maxHeartbeats 1000000 in
theorem wpick_one (l : List UInt8) (w : World) (hm : Mem w) (hl : l.length ≤ 90000) (hn1 : (parts 46 l).length = 1) :
    Calls Tryd.prog 14 #[.string (bs l)] w fun e w' => e = .returned (.agg (pkCells (pickP l))) ∧ Below w.heap.size w w' := by
  have Hb0 := Lib.hid (show Below w.heap.size w (w.alloc (.cells (pkCells ⟨0, 0, 0, 0, 0, 0⟩) 36)) from (Below.refl _ w).alloc (Nat.le_refl _) _)
  have HS := Lib.hid (wsplit_any 46 l (w.alloc (.cells (pkCells ⟨0, 0, 0, 0, 0, 0⟩) 36)) (hm.below Hb0.out hm.size) (by omega))
  rw [sz] at HS
  obtain ⟨hd, Hhd⟩ : ∃ hd, Hid ((parts 46 l)[0]? = some hd) := by
    cases h : parts 46 l with
    | nil => exact absurd h (parts_ne 46 l)
    | cons a b => exact ⟨a, rfl⟩
  have hP0 : 0 < (parts 46 l).length := List.length_pos_iff.2 (parts_ne 46 l)
  have hP1 : (parts 46 l).length ≤ 90001 := by have := parts_length 46 l; omega
  obtain ⟨ps, hps⟩ : ∃ ps, ps = parts 46 l := ⟨_, rfl⟩
  have Hps := Lib.hid hps
  rw [← hps] at HS Hhd hP0 hP1 hn1
  clear hps
  have hmk := make6
  have Hn1 := Lib.hid hn1
  go_enter Tryd.func14, Tryd.ntmps14
  go_wp2_with (go_at_call 24; go_fit HS.out; rintro e w1 ⟨rfl, hrow, hb1⟩)
  have HB1 := Lib.hid (Hb0.out.trans (hb1.mono (by omega)))
  have hs1 : w.heap.size + 1 ≤ w1.heap.size := by have := hb1.size; rw [sz] at this; exact this
  have Hnum := Lib.hid (NumRow.new w1 l)
  have HB2 := Lib.hid (HB1.out.alloc (show w.heap.size ≤ w1.heap.size by omega) (.cells six0 3))
  have Hrow := Lib.hid (hrow.below ((Below.refl w1.heap.size w1).alloc (Nat.le_refl _) (.cells six0 3)) hrow.1)
  have hg1 := hrow.1
  have Hat := Lib.hid (((PkAt.new w ⟨0, 0, 0, 0, 0, 0⟩ 36).belowAt hb1 (by omega)).belowAt ((Below.refl w1.heap.size w1).alloc (Nat.le_refl _) (.cells six0 3)) (show w.heap.size < w1.heap.size by omega))
  have Hfr := Lib.hid (((PkFree.new w ⟨0, 0, 0, 0, 0, 0⟩ 36).belowAt hb1 (by omega)).belowAt ((Below.refl w1.heap.size w1).alloc (Nat.le_refl _) (.cells six0 3)) (show w.heap.size < w1.heap.size by omega))
  have Hm2 := Lib.hid (hm.below HB2.out hm.size)
  obtain ⟨w2, hw2⟩ : ∃ w2, w2 = w1.alloc (.cells six0 3) := ⟨_, rfl⟩
  rw [← hw2] at Hnum HB2 Hrow Hat Hfr Hm2 ⊢
  obtain ⟨MB, hMB⟩ : ∃ MB, MB = w1.heap.size := ⟨_, rfl⟩
  have hms : w2.heap.size = MB + 1 := by rw [hw2, hMB, sz]
  rw [← hMB] at hs1 Hnum hg1 ⊢
  have Hms := Lib.hid hms
  clear hMB hw2 hrow hb1 hms HS HB1 Hb0
  have hmin : ((min (1 : Int) 6).toNat - 1 : Nat) = 0 := by decide
  rw [hmin]
  go_loopw [16] (fun i wr => i = .int .i64 0 ∧ wr = w2) (fun i _ => 0)
  case atStart => exact ⟨rfl, rfl⟩
  case round =>
    obtain ⟨rfl, rfl⟩ := hrel
    have Hw := HB2
    have HF := Lib.hid (Hnum.out.full (.inr (by rw [← Hps.out, Hn1.out])))
    have HrowR := Hrow
    have HAt2 := Hat
    have HFr2 := Hfr
    have hhd := HrowR.out.2 0 hd Hhd.out
    have Hh := Lib.hid (show (parts 46 l)[0]? = some hd by rw [← Hps.out]; exact Hhd.out)
    obtain ⟨z0, z1, z2, z3, z4, z5⟩ := HAt2.out
    obtain ⟨y0, y1, y2, y3, y4, y5⟩ := HFr2.out
    have hT : (bs hd).toList = hd := by rw [ByteArray.toList_eq]; rfl
    have hP0i : (0 : Int) < (ps.length : Int) := by omega
    by_cases h1 : hd = [103]
    · skip
      have Hyes := Lib.hid (pickP_g (h1 ▸ Hh.out))
      have d0 := HF.out 0 (by omega)
      subst h1
      go_wp2
      exact wpick_end (p := ⟨1, numAt l 0, 0, 0, 0, 0⟩) (q := ⟨0, 0, 0, 0, 0, 0⟩) rfl rfl ⟨z0, z1, z2, z3, z4, z5⟩ Hw.out Hyes.out
    · by_cases h2 : hd = [109]
      · have h1 := h2; clear h2
        have Hyes := Lib.hid (pickP_m (h1 ▸ Hh.out))
        have d0 := HF.out 0 (by omega)
        have d1 := HF.out 1 (by omega)
        have d2 := HF.out 2 (by omega)
        have d3 := HF.out 3 (by omega)
        subst h1
        go_wp2
        go_still_tail 13, (by kernel_rfl)
        change wpList _ _ _ _ _ (wr).drew
        go_wp2
        exact wpick_end_drew (p := ⟨2, numAt l 0, numAt l 1, numAt l 2, numAt l 3, 0⟩) (q := ⟨0, 0, 0, 0, 0, 0⟩) rfl rfl ⟨z0, z1, z2, z3, z4, z5⟩ Hw.out Hyes.out
      · by_cases h3 : hd = [97]
        · have h1 := h3; clear h3 h2
          have Hyes := Lib.hid (pickP_a (h1 ▸ Hh.out))
          have d0 := HF.out 0 (by omega)
          have d1 := HF.out 1 (by omega)
          have d2 := HF.out 2 (by omega)
          have d3 := HF.out 3 (by omega)
          have d4 := HF.out 4 (by omega)
          subst h1
          go_wp2
          go_still_tail 16, (by kernel_rfl)
          change wpList _ _ _ _ _ (wr).drew
          go_wp2
          exact wpick_end_drew (p := ⟨3, numAt l 0, numAt l 1, numAt l 3, numAt l 4, numAt l 2⟩) (q := ⟨0, 0, 0, 0, 0, 0⟩) rfl rfl ⟨z0, z1, z2, z3, z4, z5⟩ Hw.out Hyes.out
        · have q1 : (hd == [103]) = false := by simpa using h1
          have q2 : (hd == [109]) = false := by simpa using h2
          have q3 : (hd == [97]) = false := by simpa using h3
          have Hyes := Lib.hid (pickP_no Hh.out h1 h2 h3)
          clear h1 h2 h3
          go_wp2
          exact wpick_end (p := ⟨0, 0, 0, 0, 0, 0⟩) (q := ⟨0, 0, 0, 0, 0, 0⟩) rfl rfl ⟨z0, z1, z2, z3, z4, z5⟩ Hw.out Hyes.out

set_option maxRecDepth 100000 in
set_option maxHeartbeats 1000000 in
theorem wpick_many (l : List UInt8) (w : World) (hm : Mem w) (hl : l.length ≤ 90000) (hn1 : ¬ (parts 46 l).length = 1) :
    Calls Tryd.prog 14 #[.string (bs l)] w fun e w' => e = .returned (.agg (pkCells (pickP l))) ∧ Below w.heap.size w w' := by
  have Hb0 := Lib.hid (show Below w.heap.size w (w.alloc (.cells (pkCells ⟨0, 0, 0, 0, 0, 0⟩) 36)) from (Below.refl _ w).alloc (Nat.le_refl _) _)
  have HS := Lib.hid (wsplit_any 46 l (w.alloc (.cells (pkCells ⟨0, 0, 0, 0, 0, 0⟩) 36)) (hm.below Hb0.out hm.size) (by omega))
  rw [sz] at HS
  obtain ⟨hd, Hhd⟩ : ∃ hd, Hid ((parts 46 l)[0]? = some hd) := by
    cases h : parts 46 l with
    | nil => exact absurd h (parts_ne 46 l)
    | cons a b => exact ⟨a, rfl⟩
  have hP0 : 0 < (parts 46 l).length := List.length_pos_iff.2 (parts_ne 46 l)
  have hP1 : (parts 46 l).length ≤ 90001 := by have := parts_length 46 l; omega
  obtain ⟨ps, hps⟩ : ∃ ps, ps = parts 46 l := ⟨_, rfl⟩
  have Hps := Lib.hid hps
  rw [← hps] at HS Hhd hP0 hP1 hn1
  clear hps
  have hmk := make6
  go_enter Tryd.func14, Tryd.ntmps14
  go_wp2_with (go_at_call 24; go_fit HS.out; rintro e w1 ⟨rfl, hrow, hb1⟩)
  have HB1 := Lib.hid (Hb0.out.trans (hb1.mono (by omega)))
  have hs1 : w.heap.size + 1 ≤ w1.heap.size := by have := hb1.size; rw [sz] at this; exact this
  have Hnum := Lib.hid (NumRow.new w1 l)
  have HB2 := Lib.hid (HB1.out.alloc (show w.heap.size ≤ w1.heap.size by omega) (.cells six0 3))
  have Hrow := Lib.hid (hrow.below ((Below.refl w1.heap.size w1).alloc (Nat.le_refl _) (.cells six0 3)) hrow.1)
  have hg1 := hrow.1
  have Hat := Lib.hid (((PkAt.new w ⟨0, 0, 0, 0, 0, 0⟩ 36).belowAt hb1 (by omega)).belowAt ((Below.refl w1.heap.size w1).alloc (Nat.le_refl _) (.cells six0 3)) (show w.heap.size < w1.heap.size by omega))
  have Hfr := Lib.hid (((PkFree.new w ⟨0, 0, 0, 0, 0, 0⟩ 36).belowAt hb1 (by omega)).belowAt ((Below.refl w1.heap.size w1).alloc (Nat.le_refl _) (.cells six0 3)) (show w.heap.size < w1.heap.size by omega))
  have Hm2 := Lib.hid (hm.below HB2.out hm.size)
  obtain ⟨w2, hw2⟩ : ∃ w2, w2 = w1.alloc (.cells six0 3) := ⟨_, rfl⟩
  rw [← hw2] at Hnum HB2 Hrow Hat Hfr Hm2 ⊢
  obtain ⟨MB, hMB⟩ : ∃ MB, MB = w1.heap.size := ⟨_, rfl⟩
  have hms : w2.heap.size = MB + 1 := by rw [hw2, hMB, sz]
  rw [← hMB] at hs1 Hnum hg1 ⊢
  have Hms := Lib.hid hms
  obtain ⟨M, hM⟩ : ∃ M, M = (min (ps.length : Int) 6).toNat - 1 := ⟨_, rfl⟩
  rw [← hM]
  have hM1 : M + 1 ≤ ps.length := by omega
  have hM2 : M ≤ 5 := by omega
  have HM3 : Hid (M = 5 ∨ M + 1 = ps.length) := Lib.hid (by omega)
  clear hM hMB hw2 hrow hb1 hms HS HB1 Hb0
  go_loopw [16] (fun i wr => ∃ k : Nat, k ≤ M ∧ i = .int .i64 k ∧ NumRow MB l k wr ∧ Below MB w2 wr) (fun i _ => M - (intOf i).toNat)
  case atStart => exact ⟨0, by omega, rfl, Hnum.out, Below.refl _ _⟩
  case round =>
    obtain ⟨k, hk, rfl, hnum, hB⟩ := hrel
    have hsw : MB < wr.heap.size := by have := hB.size; rw [Hms.out] at this; omega
    have HN := Lib.hid hnum
    have Hw := Lib.hid (HB2.out.trans (hB.mono (by omega)))
    clear hnum
    by_cases hlt : k < M
    · have hi : ps[k + 1]? = some ps[k + 1] := List.getElem?_eq_getElem (by omega)
      obtain ⟨x, hx⟩ : ∃ x, x = ps[k + 1] := ⟨_, rfl⟩
      rw [← hx] at hi
      have hcell := (Hrow.out.below hB hg1).2 (k + 1) x hi
      have hcell' : wr.cell? ⟨w.heap.size + 1, 1 + k, none⟩ = some (.string (bs x)) := by rw [Nat.add_comm 1 k]; exact hcell
      have hxl : x.length ≤ 100000 := by have := parts_len 46 l x (Hps.out ▸ List.mem_of_getElem? hi); omega
      have Hnat := Lib.hid (show atoiVal x = numAt l k by rw [numAt, ← Hps.out, hi])
      have Hc := Lib.hid (atoi_any x wr (Hm2.out.below hB (by have := Hm2.out.size; rw [Hms.out] at this; have := hm.size; omega)) hxl)
      have k0 : (0 : Int) ≤ (k : Int) := by omega
      have k1 : (k : Int) < 6 := by omega
      have k2 : (k : Int) < (M : Int) := by omega
      clear hx hi hcell
      go_wp2_with (go_at_call 25; go_fit Hc.out; rintro e w3 ⟨er, rfl, hb3⟩; obtain ⟨q0, q1⟩ := (HN.out.below hb3 hsw) k (by omega); have HN3 := Lib.hid (HN.out.below hb3 hsw); have HB3 := Lib.hid (hB.trans (hb3.mono (Nat.le_of_lt hsw))); clear hb3)
      go_roundw
      case rel => exact ⟨k + 1, by omega, by go_num, by rw [Hnat.out]; exact HN3.out.put (by omega), HB3.out.setCell (Nat.le_refl _) _⟩
      case measure => simp [intOf]; omega
    · obtain rfl : k = M := by omega
      have HF := Lib.hid (HN.out.full (by rw [← Hps.out]; exact HM3.out))
      have HrowR := Lib.hid (Hrow.out.below hB hg1)
      have HAt2 := Lib.hid (Hat.out.belowAt hB (show w.heap.size < MB by omega))
      have HFr2 := Lib.hid (Hfr.out.belowAt hB (show w.heap.size < MB by omega))
      have hhd := HrowR.out.2 0 hd Hhd.out
      have Hh := Lib.hid (show (parts 46 l)[0]? = some hd by rw [← Hps.out]; exact Hhd.out)
      obtain ⟨z0, z1, z2, z3, z4, z5⟩ := HAt2.out
      obtain ⟨y0, y1, y2, y3, y4, y5⟩ := HFr2.out
      have hT : (bs hd).toList = hd := by rw [ByteArray.toList_eq]; rfl
      have hP0i : (0 : Int) < (ps.length : Int) := by omega
      by_cases h1 : hd = [103]
      · skip
        have Hyes := Lib.hid (pickP_g (h1 ▸ Hh.out))
        have d0 := HF.out 0 (by omega)
        subst h1
        go_wp2
        exact wpick_end (p := ⟨1, numAt l 0, 0, 0, 0, 0⟩) (q := ⟨0, 0, 0, 0, 0, 0⟩) rfl rfl ⟨z0, z1, z2, z3, z4, z5⟩ Hw.out Hyes.out
      · by_cases h2 : hd = [109]
        · have h1 := h2; clear h2
          have Hyes := Lib.hid (pickP_m (h1 ▸ Hh.out))
          have d0 := HF.out 0 (by omega)
          have d1 := HF.out 1 (by omega)
          have d2 := HF.out 2 (by omega)
          have d3 := HF.out 3 (by omega)
          subst h1
          go_wp2
          go_still_tail 13, (by kernel_rfl)
          change wpList _ _ _ _ _ (wr).drew
          go_wp2
          exact wpick_end_drew (p := ⟨2, numAt l 0, numAt l 1, numAt l 2, numAt l 3, 0⟩) (q := ⟨0, 0, 0, 0, 0, 0⟩) rfl rfl ⟨z0, z1, z2, z3, z4, z5⟩ Hw.out Hyes.out
        · by_cases h3 : hd = [97]
          · have h1 := h3; clear h3 h2
            have Hyes := Lib.hid (pickP_a (h1 ▸ Hh.out))
            have d0 := HF.out 0 (by omega)
            have d1 := HF.out 1 (by omega)
            have d2 := HF.out 2 (by omega)
            have d3 := HF.out 3 (by omega)
            have d4 := HF.out 4 (by omega)
            subst h1
            go_wp2
            go_still_tail 16, (by kernel_rfl)
            change wpList _ _ _ _ _ (wr).drew
            go_wp2
            exact wpick_end_drew (p := ⟨3, numAt l 0, numAt l 1, numAt l 3, numAt l 4, numAt l 2⟩) (q := ⟨0, 0, 0, 0, 0, 0⟩) rfl rfl ⟨z0, z1, z2, z3, z4, z5⟩ Hw.out Hyes.out
          · have q1 : (hd == [103]) = false := by simpa using h1
            have q2 : (hd == [109]) = false := by simpa using h2
            have q3 : (hd == [97]) = false := by simpa using h3
            have Hyes := Lib.hid (pickP_no Hh.out h1 h2 h3)
            clear h1 h2 h3
            go_wp2
            exact wpick_end (p := ⟨0, 0, 0, 0, 0, 0⟩) (q := ⟨0, 0, 0, 0, 0, 0⟩) rfl rfl ⟨z0, z1, z2, z3, z4, z5⟩ Hw.out Hyes.out

/-- THE PROGRAM's READING OF A PICK. -/
theorem wpick_any (l : List UInt8) (w : World) (hm : Mem w) (hl : l.length ≤ 90000) :
    Calls Tryd.prog 14 #[.string (bs l)] w fun e w' => e = .returned (.agg (pkCells (pickP l))) ∧ Below w.heap.size w w' := by
  by_cases h : (parts 46 l).length = 1
  · exact wpick_one l w hm hl h
  · exact wpick_many l w hm hl h
end Go.Proofs.YtlohcmnckfndlaaDoor
