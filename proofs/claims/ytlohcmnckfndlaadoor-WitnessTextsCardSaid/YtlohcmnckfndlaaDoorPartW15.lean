/-
  A part of the proof of WitnessTexts: contracts of functions that the law reaches.
-/
import Derived.Test.YtlohcmnckfndlaaDoorPartW14
namespace Go.Proofs.YtlohcmnckfndlaaDoor
open Go Go.RowKit Go.Shelf
attribute [local go_sem] Oper.semAt_some

theorem indexByte_free (c : UInt8) : ∀ x : List UInt8, c ∉ x → Lib.indexByte x c = -1
  | [], _ => rfl
  | b :: r, h => by
    have hb : (b == c) = false := by simp; intro e; exact h (by simp [e])
    have := indexByte_free c r (fun hm => h (by simp [hm]))
    rw [Lib.indexByte, if_neg (by simp [hb]), this]; rfl
theorem indexByte_app (c : UInt8) (t : List UInt8) : ∀ x : List UInt8, c ∉ x → Lib.indexByte (x ++ c :: t) c = x.length
  | [], _ => by rw [List.nil_append, Lib.indexByte, if_pos (by simp)]; rfl
  | b :: r, h => by
    have hb : (b == c) = false := by simp; intro e; exact h (by simp [e])
    have := indexByte_app c t r (fun hm => h (by simp [hm]))
    rw [List.cons_append, Lib.indexByte, if_neg (by simp [hb]), this, if_neg (by simp)]
    simp

/-- The iterator's three boxes. -/
def Boxes (N : Nat) (r : List UInt8) (w : World) : Prop :=
  w.heap[N]? = some (.cells #[.string (bs r)] 9 (0, 0)) ∧ w.heap[N + 1]? = some (.cells #[.string (bs [32])] 9 (0, 0)) ∧ w.heap[N + 2]? = some (.cells #[.int .i64 0] 3 (0, 0))

/-- What a round keeps. -/
def KeepBoxes (N : Nat) (w w' : World) : Prop := ∀ b, N ≤ b → b < N + 3 → w'.heap[b]? = w.heap[b]?

theorem Boxes.kept {N : Nat} {r : List UInt8} {w w' : World} (h : Boxes N r w) (hk : KeepBoxes N w w') : Boxes N r w' :=
  ⟨(hk N (by omega) (by omega)).trans h.1, (hk (N + 1) (by omega) (by omega)).trans h.2.1, (hk (N + 2) (by omega) (by omega)).trans h.2.2⟩

theorem Boxes.put {N : Nat} {r t : List UInt8} {w : World} (h : Boxes N r w) : Boxes N t (w.setCell ⟨N, 0, none⟩ (.string (bs t))) := by
  refine ⟨?_, (heap_setCell_ne w N _ _ (by omega)).trans h.2.1, (heap_setCell_ne w N _ _ (by omega)).trans h.2.2⟩
  simp [World.setCell, Array.getElem?_modify, h.1]

/-- What is left, read off the box. -/
def leftIn (N : Nat) (w : World) : Nat := match w.cell? ⟨N, 0, none⟩ with
  | some (.string b) => b.size
  | _ => 0
theorem Boxes.left {N : Nat} {r : List UInt8} {w : World} (h : Boxes N r w) : leftIn N w = r.length := by
  rw [leftIn, blk_cell h.1]; simp [bs_size]

set_option maxRecDepth 100000 in
set_option maxHeartbeats 1000000 in
theorem seq_feeds (s : List UInt8) (N : Nat) (w : World) (hl : s.length ≤ 100000) (hN : N + 3 ≤ w.heap.size) (hb : Boxes N s w) :
    Feeds Tryd.prog 31 #[.pointer (some ⟨N + 1, 0, none⟩), .pointer (some ⟨N, 0, none⟩), .pointer (some ⟨N + 2, 0, none⟩)] (fun x : List UInt8 => .string (bs x)) (KeepBoxes N) (parts 32 s) N w := by
  intro l J W hW hJs hY h0
  have hbW : Boxes N s W := hb.kept (fun b h1 h2 => hW.block b (by omega))
  clear hb hW
  refine callsIn_of_wp Tryd.func31 rfl trivial ?_ rfl
  simp only [Tryd.ntmps31, List.size_toArray, List.length_cons, List.length_nil, Nat.reduceAdd, Nat.reduceSub, Array.replicate_succ, Array.replicate_zero, List.push_toArray, List.append_toArray, List.nil_append, List.cons_append]
  obtain ⟨b0, b1, b2⟩ := hbW
  have c0 := blk_cell b0 0
  have c1 := blk_cell b1 0
  have c2 := blk_cell b2 0
  have hb0 := Lib.hid (show Boxes N s W from ⟨b0, b1, b2⟩)
  have hz : (bs [32]).size = 1 := rfl
  simp only [List.getElem?_toArray, List.getElem?_cons_zero] at c0 c1 c2
  clear b0 b1 b2
  gi_wp2
  gi_loopw [7] (fun _ wr => ∃ (pre : List (List UInt8)) (r : List UInt8), r.length ≤ s.length ∧ parts 32 s = pre ++ parts 32 r ∧ Boxes N r wr ∧ J pre wr) (fun _ wr => leftIn N wr)
  case atStart => exact ⟨[], s, Nat.le_refl _, rfl, hb0.out, h0⟩
  case round =>
    obtain ⟨pre, r, hrl, hp, hbx, hJ⟩ := hrel
    have HBx := Lib.hid hbx
    have Hp := Lib.hid hp
    obtain ⟨b0, b1, b2⟩ := hbx
    have d0 := blk_cell b0 0
    have d1 := blk_cell b1 0
    have d2 := blk_cell b2 0
    simp only [List.getElem?_toArray, List.getElem?_cons_zero] at d0 d1 d2
    have hrz : (bs r).size = r.length := bs_size r
    clear b0 b1 b2 c0 c1 c2 hp
    by_cases hm : (32 : UInt8) ∈ r
    · obtain ⟨x, t, hrt, hx⟩ := List.eq_append_cons_of_mem hm
      have hi : Lib.indexByte r 32 = x.length := by rw [hrt]; exact indexByte_app 32 t x hx
      have hpr : parts 32 r = x :: parts 32 t := by rw [hrt]; exact parts_app 32 t x hx
      have hcut : (bs r).extract 0 x.length = bs x := by rw [bs_cut]; simp [hrt]
      have hcut2 : (bs r).extract (x.length + 1) r.length = bs t := by
        rw [bs_cut, hrt]; simp
        rw [List.take_of_length_le (by omega)]
      have hlen : r.length = x.length + 1 + t.length := by rw [hrt]; simp; omega
      have HI := Lib.hid (Tryd.strings_Index_one (bs r) 32 wr)
      have e : (bs r).data.toList = r := rfl
      rw [e, hi] at HI
      have hpl : (pre ++ [x]) <+: parts 32 s := ⟨parts 32 t, by rw [Hp.out, hpr]; simp⟩
      obtain ⟨fn, tmps, assign, body, hy, hR⟩ := hY pre x wr hJ hpl
      have Hpr := Lib.hid hpr
      have hrl2 : (x.length : Int) + 1 ≤ (r.length : Int) := by omega
      have HL := Lib.hid hlen
      clear hrt hi hm hpr hlen hpl
      gi_wp2_with (refine ⟨trivial, ?_⟩; gi_at_call 33; refine (callsIn_wide.2 HI.out).mono ?_; rintro e w' ⟨rfl, rfl⟩)
      refine hR.mono ?_
      rintro e W3 ⟨rfl, hJ3, hk3⟩
      have HB3 := Lib.hid (HBx.out.kept hk3)
      have g0 := blk_cell HB3.out.1 0
      have g1 := blk_cell HB3.out.2.1 0
      have gf : W3.frozen? ⟨N, 0, none⟩ = false := blk_free HB3.out.1 0
      simp only [List.getElem?_toArray, List.getElem?_cons_zero] at g0 g1
      clear hk3 hR hy
      gi_wp2
      go_roundw
      case rel => exact ⟨pre ++ [x], t, by have := HL.out; omega, by rw [Hp.out, Hpr.out]; simp, HB3.out.put, hJs _ _ _ hJ3⟩
      case measure => rw [HB3.out.put.left, HBx.out.left]; have := HL.out; omega
    · have hi : Lib.indexByte r 32 = -1 := indexByte_free 32 r hm
      have hpr : parts 32 r = [r] := parts_free 32 r hm
      have HI := Lib.hid (Tryd.strings_Index_one (bs r) 32 wr)
      have e : (bs r).data.toList = r := rfl
      rw [e, hi] at HI
      have hpl : (pre ++ [r]) <+: parts 32 s := ⟨[], by rw [Hp.out, hpr]; simp⟩
      obtain ⟨fn, tmps, assign, body, hy, hR⟩ := hY pre r wr hJ hpl
      have Hpr := Lib.hid hpr
      clear hi hm hpr hpl
      gi_wp2_with (refine ⟨trivial, ?_⟩; gi_at_call 33; refine (callsIn_wide.2 HI.out).mono ?_; rintro e w' ⟨rfl, rfl⟩)
      refine hR.mono ?_
      rintro e W3 ⟨rfl, hJ3, hk3⟩
      clear hR hy
      gi_wp2
      go_end0
      exact ⟨⟨_, rfl⟩, by rw [Hp.out, Hpr.out]; exact hJ3⟩
end Go.Proofs.YtlohcmnckfndlaaDoor
