/-
  A part of the proof of WitnessTexts: contracts of functions that the law reaches.
-/
import Derived.Deep.RegionHeld3
import Derived.Deep.QuietTactic
import Derived.BigQuiet
import Derived.Test.YtlohcmnckfndlaaDoorPartW1
namespace Go.Proofs.YtlohcmnckfndlaaDoor
open Go Go.RowKit

/-- A pick's six cells. -/
abbrev pkCells (p : Pk) : Array Value := #[.int .u8 p.kind, .int .i64 p.rank, .int .i64 p.call, .int .i64 p.fr, .int .i64 p.sq, .int .i64 p.val]

/-- A pick whose numbers are of 64 bits. -/
structure PkIn (p : Pk) : Prop where
  k0 : 0 ≤ p.kind
  k1 : p.kind ≤ 255
  rank : In64 p.rank
  call : In64 p.call
  fr : In64 p.fr
  sq : In64 p.sq
  val : In64 p.val

theorem text1 (p : Pk) (hk : p.kind = 1) (h : p.call = 0 ∧ p.fr = 0 ∧ p.sq = 0 ∧ p.val = 0) : bs [103] ++ dotB p.rank = bs (textP p) := by
  rw [textP, if_pos ⟨hk, h⟩]; unfold dotB; rw [← bs_app]; simp [dots]
theorem text2 (p : Pk) (hk : p.kind = 2) (h : p.val = 0) : bs [109] ++ dotB p.rank ++ dotB p.call ++ dotB p.fr ++ dotB p.sq = bs (textP p) := by
  rw [textP, if_neg (by omega), if_pos ⟨hk, h⟩]; unfold dotB; simp only [← bs_app]; simp [dots]
theorem text3 (p : Pk) (hk : p.kind = 3) : bs [97] ++ dotB p.rank ++ dotB p.call ++ dotB p.val ++ dotB p.fr ++ dotB p.sq = bs (textP p) := by
  rw [textP, if_neg (by omega), if_neg (by omega), if_pos hk]; unfold dotB; simp only [← bs_app]; simp [dots]

/-- The pick in its box. -/
abbrev PkAt (B : Nat) (p : Pk) (w : World) : Prop :=
  w.cell? ⟨B, 0, none⟩ = some (.int .u8 p.kind) ∧ w.cell? ⟨B, 1, none⟩ = some (.int .i64 p.rank) ∧ w.cell? ⟨B, 2, none⟩ = some (.int .i64 p.call) ∧
  w.cell? ⟨B, 3, none⟩ = some (.int .i64 p.fr) ∧ w.cell? ⟨B, 4, none⟩ = some (.int .i64 p.sq) ∧ w.cell? ⟨B, 5, none⟩ = some (.int .i64 p.val)

theorem PkAt.below {B : Nat} {p : Pk} {w w' : World} (hb : Below w.heap.size w w') (hl : B < w.heap.size) (h : PkAt B p w) : PkAt B p w' :=
  ⟨(hb.cell (p := ⟨B, 0, none⟩) hl).trans h.1, (hb.cell (p := ⟨B, 1, none⟩) hl).trans h.2.1, (hb.cell (p := ⟨B, 2, none⟩) hl).trans h.2.2.1,
   (hb.cell (p := ⟨B, 3, none⟩) hl).trans h.2.2.2.1, (hb.cell (p := ⟨B, 4, none⟩) hl).trans h.2.2.2.2.1, (hb.cell (p := ⟨B, 5, none⟩) hl).trans h.2.2.2.2.2⟩

theorem blk_cell {W : World} {b : Nat} {cs : Array Value} {t : TypeId} (h : W.heap[b]? = some (.cells cs t (0, 0))) (i : Nat) : W.cell? ⟨b, i, none⟩ = cs[i]? := by simp [World.cell?, h]

theorem PkAt.new (w : World) (p : Pk) (t : TypeId) : PkAt w.heap.size p (w.alloc (.cells (pkCells p) t)) :=
  have h : (w.alloc (.cells (pkCells p) t)).heap[w.heap.size]? = some (.cells (pkCells p) t (0, 0)) := heap_alloc_new w _
  ⟨blk_cell h 0, blk_cell h 1, blk_cell h 2, blk_cell h 3, blk_cell h 4, blk_cell h 5⟩

/-- What is carried: the pick's box; nothing below turned. -/
def Kept (B N : Nat) (W0 : World) (p : Pk) (w : World) : Prop := PkAt B p w ∧ B < w.heap.size ∧ Below N W0 w ∧ N ≤ W0.heap.size

theorem Kept.below {B N : Nat} {W0 : World} {p : Pk} {w w' : World} (hb : Below w.heap.size w w') (h : Kept B N W0 p w) : Kept B N W0 p w' :=
  ⟨h.1.below hb h.2.1, Nat.lt_of_lt_of_le h.2.1 hb.size, h.2.2.1.trans (hb.mono (Nat.le_trans h.2.2.2 h.2.2.1.size)), h.2.2.2⟩

theorem Kept.calls {B N : Nat} {W0 : World} {p : Pk} {w : World} {g : Nat} {args : Array Value} {x : Value} (h : Kept B N W0 p w)
    (hc : Calls Tryd.prog g args w fun e w' => e = .returned x ∧ Below w.heap.size w w') :
    Calls Tryd.prog g args w fun e w' => e = .returned x ∧ Kept B N W0 p w' ∧ PkAt B p w' :=
  hc.mono fun _ _ he => ⟨he.1, h.below he.2, (h.below he.2).1⟩

theorem Kept.drew {B N : Nat} {W0 : World} {p : Pk} {w : World} (h : Kept B N W0 p w) : Kept B N W0 p w.drew := h.below (Below.refl _ w).drew

theorem Kept.new (w : World) (p : Pk) (t : TypeId) : Kept w.heap.size w.heap.size w p (w.alloc (.cells (pkCells p) t)) :=
  ⟨PkAt.new w p t, by simp, (Below.refl _ w).alloc (Nat.le_refl _) _, Nat.le_refl _⟩

set_option maxRecDepth 100000 in
set_option maxHeartbeats 1000000 in
theorem one_two (p : Pk) (w : World) (hp : PkIn p) (hk : p.kind = 2) (hv : p.val = 0) :
    Calls Tryd.prog 12 #[.agg (pkCells p)] w fun e w' => e = .returned (.string (bs (textP p))) ∧ Below w.heap.size w w' := by
  have Hs := Lib.hid (text2 p hk hv)
  have m0 := (Kept.new w p 36).drew
  obtain ⟨k, r, c, f, s, v⟩ := p
  obtain ⟨_, _, hr, hc, hf, hs, hv'⟩ := hp
  dsimp only [pkCells] at hk hv hr hc hf hs hv' Hs m0 ⊢
  subst hk hv
  have z1 := dotB_size r hr
  have z2 := dotB_size c hc
  have z3 := dotB_size f hf
  have z4 := dotB_size s hs
  have n1 : ¬ 9223372036854775807 < 1 + (dotB r).size := by omega
  have n2 : ¬ 9223372036854775807 < 1 + (dotB r).size + (dotB c).size := by omega
  have n3 : ¬ 9223372036854775807 < 1 + (dotB r).size + (dotB c).size + (dotB f).size := by omega
  have n4 : ¬ 9223372036854775807 < 1 + (dotB r).size + (dotB c).size + (dotB f).size + (dotB s).size := by omega
  have tok1 : True := trivial
  have tok2 : True := trivial
  have tok3 : True := trivial
  go_enter Tryd.func12, Tryd.ntmps12
  go_wp2_with fail
  go_region_held3 (fun w' => w'.cell? ⟨w.heap.size, 1, none⟩ = some (.int .i64 r) ∧ w'.cell? ⟨w.heap.size, 2, none⟩ = some (.int .i64 c) ∧
            w'.cell? ⟨w.heap.size, 3, none⟩ = some (.int .i64 f) ∧ w'.cell? ⟨w.heap.size, 4, none⟩ = some (.int .i64 s))
          (first | exact ⟨hS.2.1, hS.2.2.1, hS.2.2.2.1, hS.2.2.2.2.1⟩ | go_keep)
          (first
            | (go_at_call 22; have _t := tok1; refine (m0.calls (dot_any r _ hr)).mono ?_; clear tok1; rintro e w1 ⟨rfl, m1, hS⟩)
            | (go_at_call 22; have _t := tok2; refine (m1.calls (dot_any c _ hc)).mono ?_; clear tok2; rintro e w1 ⟨rfl, m2, hS⟩)
            | (go_at_call 22; have _t := tok3; refine (m2.calls (dot_any f _ hf)).mono ?_; clear tok3; rintro e w1 ⟨rfl, m3, hS⟩)
            | (go_at_call 22; refine (m3.calls (dot_any s _ hs)).mono ?_; rintro e w1 ⟨rfl, m4, hS⟩))
  go_wp2
  go_ret
  exact ⟨by rw [← Hs.out]; rfl, m4.2.2.1⟩

set_option maxRecDepth 100000 in
set_option maxHeartbeats 1000000 in
theorem one_three (p : Pk) (w : World) (hp : PkIn p) (hk : p.kind = 3) :
    Calls Tryd.prog 12 #[.agg (pkCells p)] w fun e w' => e = .returned (.string (bs (textP p))) ∧ Below w.heap.size w w' := by
  have Hs := Lib.hid (text3 p hk)
  have m0 := (Kept.new w p 36).drew
  obtain ⟨k, r, c, f, s, v⟩ := p
  obtain ⟨_, _, hr, hc, hf, hs, hv⟩ := hp
  dsimp only [pkCells] at hk hr hc hf hs hv Hs m0 ⊢
  subst hk
  have z1 := dotB_size r hr
  have z2 := dotB_size c hc
  have z3 := dotB_size v hv
  have z4 := dotB_size f hf
  have z5 := dotB_size s hs
  have n1 : ¬ 9223372036854775807 < 1 + (dotB r).size := by omega
  have n2 : ¬ 9223372036854775807 < 1 + (dotB r).size + (dotB c).size := by omega
  have n3 : ¬ 9223372036854775807 < 1 + (dotB r).size + (dotB c).size + (dotB v).size := by omega
  have n4 : ¬ 9223372036854775807 < 1 + (dotB r).size + (dotB c).size + (dotB v).size + (dotB f).size := by omega
  have n5 : ¬ 9223372036854775807 < 1 + (dotB r).size + (dotB c).size + (dotB v).size + (dotB f).size + (dotB s).size := by omega
  have tok1 : True := trivial
  have tok2 : True := trivial
  have tok3 : True := trivial
  have tok4 : True := trivial
  go_enter Tryd.func12, Tryd.ntmps12
  go_wp2_with fail
  go_region_held3 (fun w' => w'.cell? ⟨w.heap.size, 1, none⟩ = some (.int .i64 r) ∧ w'.cell? ⟨w.heap.size, 2, none⟩ = some (.int .i64 c) ∧
            w'.cell? ⟨w.heap.size, 3, none⟩ = some (.int .i64 f) ∧ w'.cell? ⟨w.heap.size, 4, none⟩ = some (.int .i64 s) ∧ w'.cell? ⟨w.heap.size, 5, none⟩ = some (.int .i64 v))
          (first | exact ⟨hS.2.1, hS.2.2.1, hS.2.2.2.1, hS.2.2.2.2.1, hS.2.2.2.2.2⟩ | go_keep)
          (first
            | (go_at_call 22; have _t := tok1; refine (m0.calls (dot_any r _ hr)).mono ?_; clear tok1; rintro e w1 ⟨rfl, m1, hS⟩)
            | (go_at_call 22; have _t := tok2; refine (m1.calls (dot_any c _ hc)).mono ?_; clear tok2; rintro e w1 ⟨rfl, m2, hS⟩)
            | (go_at_call 22; have _t := tok3; refine (m2.calls (dot_any v _ hv)).mono ?_; clear tok3; rintro e w1 ⟨rfl, m3, hS⟩)
            | (go_at_call 22; have _t := tok4; refine (m3.calls (dot_any f _ hf)).mono ?_; clear tok4; rintro e w1 ⟨rfl, m4, hS⟩)
            | (go_at_call 22; refine (m4.calls (dot_any s _ hs)).mono ?_; rintro e w1 ⟨rfl, m5, hS⟩))
  go_wp2
  go_ret
  exact ⟨by rw [← Hs.out]; rfl, m5.2.2.1⟩

set_option maxRecDepth 100000 in
theorem one_one (p : Pk) (w : World) (hp : PkIn p) (hk : p.kind = 1) (h : p.call = 0 ∧ p.fr = 0 ∧ p.sq = 0 ∧ p.val = 0) :
    Calls Tryd.prog 12 #[.agg (pkCells p)] w fun e w' => e = .returned (.string (bs (textP p))) ∧ Below w.heap.size w w' := by
  have Hs := Lib.hid (text1 p hk h)
  have hb : Below w.heap.size w (w.alloc (.cells (pkCells p) 36)) := (Below.refl _ w).alloc (Nat.le_refl _) _
  obtain ⟨k, r, c, f, s, v⟩ := p
  obtain ⟨_, _, hr, hc, hf, hs, hv⟩ := hp
  obtain ⟨h1, h2, h3, h4⟩ := h
  dsimp only [pkCells] at hk hr hc hf hs hv Hs h1 h2 h3 h4 hb ⊢
  subst hk h1 h2 h3 h4
  have z1 := dotB_size r hr
  go_enter Tryd.func12, Tryd.ntmps12
  go_wp2_with (go_at_call 22; refine (dot_any r _ hr).mono ?_; rintro e w' ⟨rfl, hb2⟩)
  go_ret
  exact ⟨by rw [← Hs.out]; rfl, hb.trans (hb2.mono (by simp))⟩

theorem textP_none (p : Pk) (h1 : ¬ (p.kind = 1 ∧ p.call = 0 ∧ p.fr = 0 ∧ p.sq = 0 ∧ p.val = 0)) (h2 : ¬ (p.kind = 2 ∧ p.val = 0)) (h3 : p.kind ≠ 3) : textP p = [] := by
  rw [textP, if_neg h1, if_neg h2, if_neg h3]

set_option maxRecDepth 100000 in
set_option maxHeartbeats 1000000 in
theorem one_none (p : Pk) (w : World) (h1 : ¬ (p.kind = 1 ∧ p.call = 0 ∧ p.fr = 0 ∧ p.sq = 0 ∧ p.val = 0)) (h2 : ¬ (p.kind = 2 ∧ p.val = 0)) (h3 : p.kind ≠ 3) :
    Calls Tryd.prog 12 #[.agg (pkCells p)] w fun e w' => e = .returned (.string (bs (textP p))) ∧ Below w.heap.size w w' := by
  have Hs := Lib.hid (textP_none p h1 h2 h3)
  have hb : Below w.heap.size w (w.alloc (.cells (pkCells p) 36)) := (Below.refl _ w).alloc (Nat.le_refl _) _
  obtain ⟨k, r, c, f, s, v⟩ := p
  dsimp only [pkCells] at h1 h2 h3 Hs hb ⊢
  have k3 : (k == 3) = false := by simpa using h3
  by_cases k1 : k = 1
  · subst k1
    by_cases c1 : c = 0
    · subst c1
      by_cases f1 : f = 0
      · subst f1
        by_cases s1 : s = 0
        · subst s1
          have v1 : (v == 0) = false := by simpa using h1
          clear h1 h2 h3
          go_enter Tryd.func12, Tryd.ntmps12
          go_wp2
          go_ret
          exact ⟨by rw [Hs.out]; rfl, hb⟩
        · have s2 : (s == 0) = false := by simpa using s1
          clear h1 h2 h3 s1
          go_enter Tryd.func12, Tryd.ntmps12
          go_wp2
          go_ret
          exact ⟨by rw [Hs.out]; rfl, hb⟩
      · have s2 : (f == 0) = false := by simpa using f1
        clear h1 h2 h3 f1
        go_enter Tryd.func12, Tryd.ntmps12
        go_wp2
        go_ret
        exact ⟨by rw [Hs.out]; rfl, hb⟩
    · have s2 : (c == 0) = false := by simpa using c1
      clear h1 h2 h3 c1
      go_enter Tryd.func12, Tryd.ntmps12
      go_wp2
      go_ret
      exact ⟨by rw [Hs.out]; rfl, hb⟩
  · have k1' : (k == 1) = false := by simpa using k1
    clear h1 k1 h3
    by_cases k2 : k = 2
    · subst k2
      have v1 : (v == 0) = false := by simpa using h2
      clear h2
      go_enter Tryd.func12, Tryd.ntmps12
      go_wp2
      go_ret
      exact ⟨by rw [Hs.out]; rfl, hb⟩
    · have k2' : (k == 2) = false := by simpa using k2
      clear h2 k2
      go_enter Tryd.func12, Tryd.ntmps12
      go_wp2
      go_ret
      exact ⟨by rw [Hs.out]; rfl, hb⟩

theorem one_any (p : Pk) (w : World) (hp : PkIn p) :
    Calls Tryd.prog 12 #[.agg (pkCells p)] w fun e w' => e = .returned (.string (bs (textP p))) ∧ Below w.heap.size w w' := by
  by_cases h1 : p.kind = 1 ∧ p.call = 0 ∧ p.fr = 0 ∧ p.sq = 0 ∧ p.val = 0
  · exact one_one p w hp h1.1 h1.2
  · by_cases h2 : p.kind = 2 ∧ p.val = 0
    · exact one_two p w hp h2.1 h2.2
    · by_cases h3 : p.kind = 3
      · exact one_three p w hp h3
      · exact one_none p w h1 h2 h3
end Go.Proofs.YtlohcmnckfndlaaDoor
