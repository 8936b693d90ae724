/-
  A part of the proof of WitnessTexts: contracts of functions that the law reaches.
-/
import Derived.Test.YtlohcmnckfndlaaDoorPartW5
import Derived.Deep.DeepFit
namespace Go.Proofs.YtlohcmnckfndlaaDoor
open Go Go.RowKit

theorem newRow (w : World) (l : List Int) (vs : Array Value) (t : TypeId) (h : vs = (l.map fun n => Value.int .i64 n).toArray) : IntRow (w.alloc (.cells vs t)) w.heap.size 0 l := by
  refine ⟨by simp, fun i x hi => ?_⟩
  have e : (w.alloc (.cells vs t)).heap[w.heap.size]? = some (.cells vs t (0, 0)) := heap_alloc_new w _
  rw [blk_cell e, h]
  simp [hi]

theorem sz (w : World) (o : Obj) : (w.alloc o).heap.size = w.heap.size + 1 := by simp

set_option maxRecDepth 100000 in
set_option maxHeartbeats 1000000 in
theorem wone_three (p : Pk) (w : World) (hm : Mem w) (hp : PkIn p) (hk : p.kind = 3) :
    Calls Tryd.prog 10 #[.agg (pkCells p)] w fun e w' => e = .returned (.string (bs (textP p))) ∧ Below w.heap.size w w' := by
  have Hs := Lib.hid (show bs ([97] ++ dots [p.rank, p.call, p.val, p.fr, p.sq]) = bs (textP p) by rw [textP, if_neg (by omega), if_neg (by omega), if_pos hk]; rfl)
  have hb : Below w.heap.size w ((w.alloc (.cells (pkCells p) 36)).alloc (.cells #[.int .i64 p.rank, .int .i64 p.call, .int .i64 p.val, .int .i64 p.fr, .int .i64 p.sq] 3)) :=
    ((Below.refl _ w).alloc (Nat.le_refl _) _).alloc (by simp) _
  have hrow : IntRow ((w.alloc (.cells (pkCells p) 36)).alloc (.cells #[.int .i64 p.rank, .int .i64 p.call, .int .i64 p.val, .int .i64 p.fr, .int .i64 p.sq] 3)) (w.heap.size + 1) 0 [p.rank, p.call, p.val, p.fr, p.sq] := by
    rw [← sz w (.cells (pkCells p) 36)]; exact newRow _ _ _ 3 rfl
  have hin : ∀ x ∈ [p.rank, p.call, p.val, p.fr, p.sq], In64 x := by
    intro x hx; simp at hx
    rcases hx with h | h | h | h | h
    · rw [h]; exact hp.rank
    · rw [h]; exact hp.call
    · rw [h]; exact hp.val
    · rw [h]; exact hp.fr
    · rw [h]; exact hp.sq
  have Hm := Lib.hid (hm.below hb hm.size)
  have Hd := Lib.hid (dotted_any [97] _ 0 5 [p.rank, p.call, p.val, p.fr, p.sq] _ Hm.out hrow hin (by simp) (by simp))
  obtain ⟨k, r, c, f, s, v⟩ := p
  dsimp only [pkCells] at hk Hs hb Hd ⊢
  subst hk
  clear hrow hin hp
  go_enter Tryd.func10, Tryd.ntmps10
  go_wp2_with (go_at_call 18; go_fit Hd.out; rintro e w1 ⟨rfl, hb1⟩)
  go_ret
  exact ⟨by rw [← Hs.out]; rfl, hb.trans (hb1.mono hb.size)⟩

set_option maxRecDepth 100000 in
set_option maxHeartbeats 1000000 in
theorem wone_two (p : Pk) (w : World) (hm : Mem w) (hp : PkIn p) (hk : p.kind = 2) (hv : p.val = 0) :
    Calls Tryd.prog 10 #[.agg (pkCells p)] w fun e w' => e = .returned (.string (bs (textP p))) ∧ Below w.heap.size w w' := by
  have Hs := Lib.hid (show bs ([109] ++ dots [p.rank, p.call, p.fr, p.sq]) = bs (textP p) by rw [textP, if_neg (by omega), if_pos ⟨hk, hv⟩]; rfl)
  have hb : Below w.heap.size w ((w.alloc (.cells (pkCells p) 36)).alloc (.cells #[.int .i64 p.rank, .int .i64 p.call, .int .i64 p.fr, .int .i64 p.sq] 3)) :=
    ((Below.refl _ w).alloc (Nat.le_refl _) _).alloc (by simp) _
  have hrow : IntRow ((w.alloc (.cells (pkCells p) 36)).alloc (.cells #[.int .i64 p.rank, .int .i64 p.call, .int .i64 p.fr, .int .i64 p.sq] 3)) (w.heap.size + 1) 0 [p.rank, p.call, p.fr, p.sq] := by
    rw [← sz w (.cells (pkCells p) 36)]; exact newRow _ _ _ 3 rfl
  have hin : ∀ x ∈ [p.rank, p.call, p.fr, p.sq], In64 x := by
    intro x hx; simp at hx
    rcases hx with h | h | h | h
    · rw [h]; exact hp.rank
    · rw [h]; exact hp.call
    · rw [h]; exact hp.fr
    · rw [h]; exact hp.sq
  have Hm := Lib.hid (hm.below hb hm.size)
  have Hd := Lib.hid (dotted_any [109] _ 0 4 [p.rank, p.call, p.fr, p.sq] _ Hm.out hrow hin (by simp) (by simp))
  obtain ⟨k, r, c, f, s, v⟩ := p
  dsimp only [pkCells] at hk hv Hs hb Hd ⊢
  subst hk hv
  clear hrow hin hp
  go_enter Tryd.func10, Tryd.ntmps10
  go_wp2_with (go_at_call 18; go_fit Hd.out; rintro e w1 ⟨rfl, hb1⟩)
  go_ret
  exact ⟨by rw [← Hs.out]; rfl, hb.trans (hb1.mono hb.size)⟩

set_option maxRecDepth 100000 in
set_option maxHeartbeats 1000000 in
theorem wone_one (p : Pk) (w : World) (hm : Mem w) (hp : PkIn p) (hk : p.kind = 1) (h : p.call = 0 ∧ p.fr = 0 ∧ p.sq = 0 ∧ p.val = 0) :
    Calls Tryd.prog 10 #[.agg (pkCells p)] w fun e w' => e = .returned (.string (bs (textP p))) ∧ Below w.heap.size w w' := by
  have Hs := Lib.hid (show bs ([103] ++ dots [p.rank]) = bs (textP p) by rw [textP, if_pos ⟨hk, h⟩]; rfl)
  have hb : Below w.heap.size w ((w.alloc (.cells (pkCells p) 36)).alloc (.cells #[.int .i64 p.rank] 3)) :=
    ((Below.refl _ w).alloc (Nat.le_refl _) _).alloc (by simp) _
  have hrow : IntRow ((w.alloc (.cells (pkCells p) 36)).alloc (.cells #[.int .i64 p.rank] 3)) (w.heap.size + 1) 0 [p.rank] := by
    rw [← sz w (.cells (pkCells p) 36)]; exact newRow _ _ _ 3 rfl
  have hin : ∀ x ∈ [p.rank], In64 x := by
    intro x hx; simp at hx
    rw [hx]; exact hp.rank
  have Hm := Lib.hid (hm.below hb hm.size)
  have Hd := Lib.hid (dotted_any [103] _ 0 1 [p.rank] _ Hm.out hrow hin (by simp) (by simp))
  have heq : ∀ w, (binOp .eql 36 (.agg (pkCells p)) (.agg (pkCells ⟨1, p.rank, 0, 0, 0, 0⟩))).run Tryd.prog w = .ok (.bool true) w := fun w => by
    rw [eql_pk, decide_eq_true]; obtain ⟨k, r, c, f, s, v⟩ := p; obtain ⟨h1, h2, h3, h4⟩ := h; dsimp only at *; subst hk h1 h2 h3 h4; rfl
  obtain ⟨h1, h2, h3, h4⟩ := h
  obtain ⟨k, r, c, f, s, v⟩ := p
  dsimp only [pkCells] at hk h1 h2 h3 h4 Hs hb Hd heq ⊢
  subst hk h1 h2 h3 h4
  clear hrow hin hp
  go_enter Tryd.func10, Tryd.ntmps10
  go_wp2_with (go_at_call 18; go_fit Hd.out; rintro e w1 ⟨rfl, hb1⟩)
  go_ret
  exact ⟨by rw [← Hs.out]; rfl, hb.trans (hb1.mono hb.size)⟩


set_option maxRecDepth 100000 in
set_option maxHeartbeats 1000000 in
theorem wone_none (p : Pk) (w : World) (h1 : ¬ (p.kind = 1 ∧ p.call = 0 ∧ p.fr = 0 ∧ p.sq = 0 ∧ p.val = 0)) (h2 : ¬ (p.kind = 2 ∧ p.val = 0)) (h3 : p.kind ≠ 3) :
    Calls Tryd.prog 10 #[.agg (pkCells p)] w fun e w' => e = .returned (.string (bs (textP p))) ∧ Below w.heap.size w w' := by
  have Hs := Lib.hid (textP_none p h1 h2 h3)
  have hb : Below w.heap.size w (w.alloc (.cells (pkCells p) 36)) := (Below.refl _ w).alloc (Nat.le_refl _) _
  have k3 : (p.kind == 3) = false := by simpa using h3
  by_cases k1 : p.kind = 1
  · have heq : ∀ w, (binOp .eql 36 (.agg (pkCells p)) (.agg (pkCells ⟨1, p.rank, 0, 0, 0, 0⟩))).run Tryd.prog w = .ok (.bool false) w := fun w => by
      rw [eql_pk, decide_eq_false]
      intro e; apply h1
      rw [e]; exact ⟨rfl, rfl, rfl, rfl, rfl⟩
    obtain ⟨k, r, c, f, s, v⟩ := p
    dsimp only [pkCells] at k1 k3 Hs hb heq ⊢
    clear h1 h2 h3
    subst k1
    go_enter Tryd.func10, Tryd.ntmps10
    go_wp2
    go_ret
    exact ⟨by rw [Hs.out]; rfl, hb⟩
  · have k1' : (p.kind == 1) = false := by simpa using k1
    clear h1 k1 h3
    by_cases k2 : p.kind = 2
    · have v1 : (p.val == 0) = false := by simp [k2] at h2; simpa using h2
      clear h2
      obtain ⟨k, r, c, f, s, v⟩ := p
      dsimp only [pkCells] at k2 Hs hb v1 ⊢
      subst k2
      go_enter Tryd.func10, Tryd.ntmps10
      go_wp2
      go_ret
      exact ⟨by rw [Hs.out]; rfl, hb⟩
    · have k2' : (p.kind == 2) = false := by simpa using k2
      clear h2 k2
      go_enter Tryd.func10, Tryd.ntmps10
      go_wp2
      go_ret
      exact ⟨by rw [Hs.out]; rfl, hb⟩

/-- THE PROGRAM's TEXT OF A PICK. -/
theorem wone_any (p : Pk) (w : World) (hm : Mem w) (hp : PkIn p) :
    Calls Tryd.prog 10 #[.agg (pkCells p)] w fun e w' => e = .returned (.string (bs (textP p))) ∧ Below w.heap.size w w' := by
  by_cases h1 : p.kind = 1 ∧ p.call = 0 ∧ p.fr = 0 ∧ p.sq = 0 ∧ p.val = 0
  · exact wone_one p w hm hp h1.1 h1.2
  · by_cases h2 : p.kind = 2 ∧ p.val = 0
    · exact wone_two p w hm hp h2.1 h2.2
    · by_cases h3 : p.kind = 3
      · exact wone_three p w hm hp h3
      · exact wone_none p w h1 h2 h3
end Go.Proofs.YtlohcmnckfndlaaDoor
