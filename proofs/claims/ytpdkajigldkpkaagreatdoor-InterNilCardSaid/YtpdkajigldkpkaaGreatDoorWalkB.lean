/-
  The walks of a state that nobody made, for the law InterNil.
-/
import Derived.Deep.RegionHeld3
import Derived.Deep.QuietTactic
import Derived.BigQuiet
import Derived.Test.YtpdkajigldkpkaaGreatDoorWalkA
namespace Go.Proofs.YtpdkajigldkpkaaGreatDoor
open Go.RowKit Go.Shelf
attribute [local go_sem] Oper.semAt_some

set_option maxRecDepth 100000 in
theorem of_none (p : Option Addr) (r : Int) (w : World) (h : NoState w p) :
    Calls Tryz.prog 21 #[.pointer p, .int .i64 r] w fun e w' => e = .returned (.bool false) ∧ w = w' := by
  go_enter Tryz.func21, Tryz.ntmps21
  go_wp2_with (go_at_call 22; refine (none_yes _ _ h).mono ?_; rintro e w' ⟨rfl, rfl⟩)
  go_ret
  exact ⟨rfl, rfl⟩

set_option maxRecDepth 100000 in
theorem end_none (p : Option Addr) (r : Int) (w : World) (h : NoState w p) :
    Calls Tryz.prog 8 #[.pointer p, .int .i64 r] w fun e w' => e = .returned (.tuple #[.int .u8 0, .int .u8 0]) ∧ w = w' := by
  go_enter Tryz.func8, Tryz.ntmps8
  go_wp2_with (go_at_call 21; refine (of_none _ _ _ h).mono ?_; rintro e w' ⟨rfl, rfl⟩)
  go_ret2
  exact ⟨rfl, rfl⟩

set_option maxRecDepth 100000 in
theorem memory_none (p : Option Addr) (r : Int) (w : World) (h : NoState w p) :
    Calls Tryz.prog 12 #[.pointer p, .int .i64 r] w fun e w' => e = .returned (.slice none 0 0) ∧ w = w' := by
  go_enter Tryz.func12, Tryz.ntmps12
  go_wp2_with (go_at_call 21; refine (of_none _ _ _ h).mono ?_; rintro e w' ⟨rfl, rfl⟩)
  go_ret
  exact ⟨rfl, rfl⟩

set_option maxRecDepth 100000 in
theorem done_none (p : Option Addr) (w : World) (h : NoState w p) :
    Calls Tryz.prog 13 #[.pointer p] w fun e w' => e = .returned (.int .i64 0) ∧ w = w' := by
  go_enter Tryz.func13, Tryz.ntmps13
  go_wp2_with (go_at_call 22; refine (none_yes _ _ h).mono ?_; rintro e w' ⟨rfl, rfl⟩)
  go_ret
  exact ⟨rfl, rfl⟩

set_option maxRecDepth 100000 in
theorem signature_none (p : Option Addr) (w : World) (h : NoState w p) :
    Calls Tryz.prog 11 #[.pointer p] w fun e w' => e = .returned (.slice none 0 0) ∧ w = w' := by
  go_enter Tryz.func11, Tryz.ntmps11
  go_wp2_with (go_at_call 22; refine (none_yes _ _ h).mono ?_; rintro e w' ⟨rfl, rfl⟩)
  go_ret
  exact ⟨rfl, rfl⟩

set_option maxRecDepth 100000 in
theorem copy_nil (w : World) : Calls Tryz.prog 17 #[.pointer none] w fun e w' => e = .returned (.pointer none) ∧ w = w' := by
  go_enter Tryz.func17, Tryz.ntmps17
  go_wp2
  go_ret
  exact ⟨rfl, rfl⟩

set_option maxRecDepth 100000 in
theorem same_nil (w : World) : Calls Tryz.prog 18 #[.pointer none, .pointer none] w fun e w' => e = .returned (.bool true) ∧ w = w' := by
  go_enter Tryz.func18, Tryz.ntmps18
  go_wp2
  go_ret
  exact ⟨rfl, rfl⟩

set_option maxRecDepth 100000 in
theorem do_none (p : Option Addr) (k r c f s v : Int) (w : World) (h : NoState w p) :
    Calls Tryz.prog 9 #[.pointer p, .agg #[.int .u8 k, .int .i64 r, .int .i64 c, .int .i64 f, .int .i64 s, .int .i64 v]] w fun e w' => e = .returned (.int .i64 1) ∧ Below w.heap.size w w' := by
  have hb : Below w.heap.size w (w.alloc (.cells #[.int .u8 k, .int .i64 r, .int .i64 c, .int .i64 f, .int .i64 s, .int .i64 v] 43)) := (Below.refl _ w).alloc (Nat.le_refl _) _
  have h1 := h.below hb
  go_enter Tryz.func9, Tryz.ntmps9
  go_wp2_with (go_at_call 22; refine (none_yes _ _ h1).mono ?_; rintro e w' ⟨rfl, rfl⟩)
  go_ret
  exact ⟨rfl, hb⟩

set_option maxRecDepth 100000 in
set_option maxHeartbeats 1000000 in
theorem terminal_none (p : Option Addr) (w : World) (h : NoState w p) :
    Calls Tryz.prog 14 #[.pointer p] w fun e w' => e = .returned (.bool true) ∧ Below w.heap.size w w' := by
  have hb0 : Below w.heap.size w (w.alloc (.cells #[.bool false] 4)) := (Below.refl _ w).alloc (Nat.le_refl _) _
  have hb1 := hb0.alloc (by simp) (.cells #[.pointer p] 22)
  have hp := cell_new_l (w.alloc (.cells #[.bool false] 4)) (.pointer p) 22
  simp only [World.size_alloc] at hp
  have hy := picks1_yields (w.heap.size + 1) p _ (by simp) hp.1 (h.below hb1)
  have hz : ((w.alloc (.cells #[.bool false] 4)).alloc (.cells #[.pointer p] 22)).heap[w.heap.size]? = some (.cells #[.bool false] 4 (0, 0)) :=
    (Below.heap_alloc _ _ _ (by simp)).trans (World.alloc_heap_new w _)
  refine (callsIn_wide (n := 5)).1 ?_
  refine callsIn_of_wp_marks Tryz.func14 rfl trivial ?_ rfl
  simp only [Tryz.ntmps14, List.size_toArray, List.length_cons, List.length_nil, Nat.reduceAdd, Nat.reduceSub, Array.replicate_succ, Array.replicate_zero, List.push_toArray, List.append_toArray, List.nil_append, List.cons_append]
  gi_wp2_with (refine ⟨trivial, ?_⟩; gi_at_call 28; refine (callsIn_wide.2 (picks_any p _)).mono ?_; rintro e w' ⟨rfl, rfl⟩)
  refine rf_none rfl enters115 hy ?_
  intro D W hD hB hK
  have hzW := (hB.block _ (by simp; omega)).trans hz
  have hBW : Below w.heap.size w W := hb1.trans (hB.mono (by simp; omega))
  have hDW : w.heap.size ≤ D := by simp at hD; omega
  clear hz hb0 hb1 hp hy hB hD
  have c0 := blk_cell hzW 0
  simp at c0
  have g0 := blk_frz hzW 0
  gi_wp2
  have hDne : w.heap.size ≠ D := fun e => by rw [e, hK] at hzW; cases hzW
  have k2 := (set_blk_ne hDne 0 (.bool true)).trans hK
  have k1 := set_blk hzW 0 (.bool true)
  have k3 : Below w.heap.size w (W.setCell ⟨w.heap.size, 0, none⟩ (.bool true)) := hBW.setCell (by simp) _
  refine ⟨by simp, .inl ⟨_, _, rfl, run_takeDeferred k2, ?_⟩⟩
  have k6 : ((W.setCell ⟨w.heap.size, 0, none⟩ (.bool true)).putObj D (.deferred none)).heap[w.heap.size]? = some (.cells #[.bool true] 4 (0, 0)) := by
    simp [World.putObj, hDne.symm]; exact k1
  refine ⟨_, ?_, rfl, below_deferred k3 hDW k2⟩
  have e6 := blk_cell k6 0
  simp at e6
  simp [results, Tryz.results14, go_sem, e6]

set_option maxRecDepth 100000 in
set_option maxHeartbeats 1000000 in
theorem has_none (p : Option Addr) (k r c f s v : Int) (w : World) (h : NoState w p) :
    Calls Tryz.prog 23 #[.pointer p, .agg #[.int .u8 k, .int .i64 r, .int .i64 c, .int .i64 f, .int .i64 s, .int .i64 v]] w fun e w' => e = .returned (.bool false) ∧ Below w.heap.size w w' := by
  obtain ⟨w1, hw1⟩ : ∃ w1, w.alloc (.cells #[.int .u8 k, .int .i64 r, .int .i64 c, .int .i64 f, .int .i64 s, .int .i64 v] 43) = w1 := ⟨_, rfl⟩
  have hb : Below w.heap.size w w1 := by rw [← hw1]; exact (Below.refl _ w).alloc (Nat.le_refl _) _
  have hs1 : w1.heap.size = w.heap.size + 1 := by rw [← hw1]; simp
  have hb0 : Below w.heap.size w (w1.alloc (.cells #[.bool false] 4)) := hb.alloc (by omega) _
  have hb1 := hb0.alloc (by simp; omega) (.cells #[.pointer p] 22)
  have hp := cell_new_l (w1.alloc (.cells #[.bool false] 4)) (.pointer p) 22
  simp only [World.size_alloc] at hp
  have hy := picks1_yields (w1.heap.size + 1) p _ (by simp) hp.1 (h.below hb1)
  have hz : ((w1.alloc (.cells #[.bool false] 4)).alloc (.cells #[.pointer p] 22)).heap[w1.heap.size]? = some (.cells #[.bool false] 4 (0, 0)) :=
    (Below.heap_alloc _ _ _ (by simp)).trans (World.alloc_heap_new w1 _)
  rw [hs1] at hz hy hp
  refine (callsIn_wide (n := 5)).1 ?_
  refine callsIn_of_wp_marks Tryz.func23 rfl trivial ?_ rfl
  simp only [Tryz.ntmps23, List.size_toArray, List.length_cons, List.length_nil, Nat.reduceAdd, Nat.reduceSub, Array.replicate_succ, Array.replicate_zero, List.push_toArray, List.append_toArray, List.nil_append, List.cons_append]
  gi_wp2_with (refine ⟨trivial, ?_⟩; gi_at_call 28; refine (callsIn_wide.2 (picks_any p _)).mono ?_; rintro e w' ⟨rfl, rfl⟩)
  refine rf_none rfl enters115 hy ?_
  intro D W hD hB hK
  have hzW := (hB.block _ (by simp; omega)).trans hz
  have hBW : Below w.heap.size w W := hb1.trans (hB.mono (by simp; omega))
  have hDW : w.heap.size ≤ D := by simp at hD; omega
  clear hz hb0 hb1 hp hy hB hD
  have c0 := blk_cell hzW 0
  simp at c0
  have g0 := blk_frz hzW 0
  gi_wp2
  have hDne : w.heap.size + 1 ≠ D := fun e => by rw [e, hK] at hzW; cases hzW
  have k2 := (set_blk_ne hDne 0 (.bool false)).trans hK
  have k1 := set_blk hzW 0 (.bool false)
  have k3 : Below w.heap.size w (W.setCell ⟨w.heap.size + 1, 0, none⟩ (.bool false)) := hBW.setCell (by simp) _
  refine ⟨by simp, .inl ⟨_, _, rfl, run_takeDeferred k2, ?_⟩⟩
  have k6 : ((W.setCell ⟨w.heap.size + 1, 0, none⟩ (.bool false)).putObj D (.deferred none)).heap[w.heap.size + 1]? = some (.cells #[.bool false] 4 (0, 0)) := by
    simp [World.putObj, hDne.symm]; exact k1
  refine ⟨_, ?_, rfl, below_deferred k3 hDW k2⟩
  have e6 := blk_cell k6 0
  simp at e6
  simp [results, Tryz.results23, go_sem, e6]

set_option maxRecDepth 100000 in
theorem forcedp_none (p : Option Addr) (k r c f s v : Int) (w : World) (h : NoState w p) :
    Calls Tryz.prog 15 #[.pointer p, .agg #[.int .u8 k, .int .i64 r, .int .i64 c, .int .i64 f, .int .i64 s, .int .i64 v]] w fun e w' => e = .returned (.bool false) ∧ Below w.heap.size w w' := by
  have hb : Below w.heap.size w (w.alloc (.cells #[.int .u8 k, .int .i64 r, .int .i64 c, .int .i64 f, .int .i64 s, .int .i64 v] 43)) := (Below.refl _ w).alloc (Nat.le_refl _) _
  have h1 := h.below hb
  go_enter Tryz.func15, Tryz.ntmps15
  go_wp2_with (go_at_call 23; refine (has_none _ _ _ _ _ _ _ _ h1).mono ?_; rintro e w' ⟨rfl, hb2⟩)
  go_ret
  exact ⟨rfl, hb.trans (hb2.mono (by simp))⟩

/-- The pick in its box. -/
abbrev PickAt (B : Nat) (k r c f s v : Int) (w : World) : Prop :=
  w.cell? ⟨B, 0, none⟩ = some (.int .u8 k) ∧ w.cell? ⟨B, 1, none⟩ = some (.int .i64 r) ∧ w.cell? ⟨B, 2, none⟩ = some (.int .i64 c) ∧
  w.cell? ⟨B, 3, none⟩ = some (.int .i64 f) ∧ w.cell? ⟨B, 4, none⟩ = some (.int .i64 s) ∧ w.cell? ⟨B, 5, none⟩ = some (.int .i64 v)

theorem PickAt.below {B : Nat} {k r c f s v : Int} {w w' : World} (hb : Below w.heap.size w w') (hl : B < w.heap.size) (h : PickAt B k r c f s v w) : PickAt B k r c f s v w' :=
  ⟨(hb.cell (p := ⟨B, 0, none⟩) hl).trans h.1, (hb.cell (p := ⟨B, 1, none⟩) hl).trans h.2.1, (hb.cell (p := ⟨B, 2, none⟩) hl).trans h.2.2.1,
   (hb.cell (p := ⟨B, 3, none⟩) hl).trans h.2.2.2.1, (hb.cell (p := ⟨B, 4, none⟩) hl).trans h.2.2.2.2.1, (hb.cell (p := ⟨B, 5, none⟩) hl).trans h.2.2.2.2.2⟩

/-- What is carried through a round: no state, the pick's box, nothing below turned. -/
def Carry (B N : Nat) (W0 : World) (k r c f s v : Int) (p : Option Addr) (w : World) : Prop := PickAt B k r c f s v w ∧ NoState w p ∧ B < w.heap.size ∧ Below N W0 w ∧ N ≤ W0.heap.size

theorem Carry.below {B N : Nat} {W0 : World} {k r c f s v : Int} {p : Option Addr} {w w' : World} (hb : Below w.heap.size w w') (h : Carry B N W0 k r c f s v p w) : Carry B N W0 k r c f s v p w' :=
  ⟨h.1.below hb h.2.2.1, h.2.1.below hb, Nat.lt_of_lt_of_le h.2.2.1 hb.size, h.2.2.2.1.trans (hb.mono (Nat.le_trans h.2.2.2.2 (h.2.2.2.1.size))), h.2.2.2.2⟩

theorem Carry.calls {B N : Nat} {W0 : World} {k r c f s v : Int} {p : Option Addr} {w : World} {g : Nat} {args : Array Value} {x : Value} (h : Carry B N W0 k r c f s v p w)
    (hc : NoState w p → Calls Tryz.prog g args w fun e w' => e = .returned x ∧ Below w.heap.size w w') :
    Calls Tryz.prog g args w fun e w' => e = .returned x ∧ Carry B N W0 k r c f s v p w' ∧ PickAt B k r c f s v w' :=
  (hc h.2.1).mono fun _ _ he => ⟨he.1, h.below he.2, (h.below he.2).1⟩

theorem Carry.still {B N : Nat} {W0 : World} {k r c f s v : Int} {p : Option Addr} {w : World} {g : Nat} {args : Array Value} {x : Value} (h : Carry B N W0 k r c f s v p w)
    (hc : NoState w p → Calls Tryz.prog g args w fun e w' => e = .returned x ∧ w = w') :
    Calls Tryz.prog g args w fun e w' => e = .returned x ∧ Carry B N W0 k r c f s v p w' ∧ PickAt B k r c f s v w' :=
  (hc h.2.1).mono fun _ _ he => by obtain ⟨h1, rfl⟩ := he; exact ⟨h1, h, h.1⟩

theorem Carry.drew {B N : Nat} {W0 : World} {k r c f s v : Int} {p : Option Addr} {w : World} (h : Carry B N W0 k r c f s v p w) : Carry B N W0 k r c f s v p w.drew := by
  have hb : Below w.heap.size w w.drew := (Below.refl _ w).drew
  exact h.below hb

set_option maxRecDepth 100000 in
set_option maxHeartbeats 1000000 in
theorem interNil_true (k r c f s v : Int) (w : World) :
    Calls Tryz.prog 4 #[.agg #[.int .u8 k, .int .i64 r, .int .i64 c, .int .i64 f, .int .i64 s, .int .i64 v]] w fun e w' => e = .returned (.bool true) ∧ Below w.heap.size w w' := by
  go_enter Tryz.func4, Tryz.ntmps4
  go_wp2
  obtain ⟨W0, hW0⟩ : ∃ W0, (((w.alloc
            (Obj.cells
              #[Value.int IntKind.u8 k, Value.int IntKind.i64 r, Value.int IntKind.i64 c, Value.int IntKind.i64 f,
                Value.int IntKind.i64 s, Value.int IntKind.i64 v]
              43)).alloc
        (Obj.cells
          #[Value.slice none 0 0, Value.int IntKind.i64 0, Value.slice none 0 0, Value.int IntKind.i64 0,
            Value.int IntKind.i64 0, Value.bool false, Value.int IntKind.i64 0, Value.int IntKind.i64 0,
            Value.int IntKind.i64 0, Value.slice none 0 0, Value.pointer none, Value.slice none 0 0,
            Value.int IntKind.i64 0]
          33)).alloc
    (Obj.cells #[Value.pointer none, Value.pointer (some { block := w.heap.size + 1, off := 0 })] 22)) = W0 := ⟨_, rfl⟩
  have hs0 : W0.heap.size = w.heap.size + 3 := by rw [← hW0]; simp
  have hB0 : Below w.heap.size w W0 := by rw [← hW0]; exact (((Below.refl _ w).alloc (Nat.le_refl _) _).alloc (by simp) _).alloc (by simp; omega) _
  have hzp : W0.heap[w.heap.size]? = some (.cells #[Value.int IntKind.u8 k, Value.int IntKind.i64 r, Value.int IntKind.i64 c, Value.int IntKind.i64 f,
                Value.int IntKind.i64 s, Value.int IntKind.i64 v] 43 (0, 0)) := by
    rw [← hW0]; exact (Below.heap_alloc _ _ _ (by simp; omega)).trans ((Below.heap_alloc _ _ _ (by simp)).trans (World.alloc_heap_new w _))
  have hz0 : W0.heap[w.heap.size + 1]? = some (.cells #[Value.slice none 0 0, Value.int IntKind.i64 0, Value.slice none 0 0, Value.int IntKind.i64 0,
            Value.int IntKind.i64 0, Value.bool false, Value.int IntKind.i64 0, Value.int IntKind.i64 0,
            Value.int IntKind.i64 0, Value.slice none 0 0, Value.pointer none, Value.slice none 0 0,
            Value.int IntKind.i64 0] 33 (0, 0)) := by
    rw [← hW0]; refine (Below.heap_alloc _ _ _ (by simp)).trans ?_; rw [← World.size_alloc w]; exact World.alloc_heap_new _ _
  have hz1 : W0.heap[w.heap.size + 2]? = some (.cells #[Value.pointer none, Value.pointer (some { block := w.heap.size + 1, off := 0 })] 22 (0, 0)) := by
    rw [← hW0]
    refine Eq.trans (congrArg _ (show w.heap.size + 2 = _ from ?_)) (World.alloc_heap_new _ _)
    simp
  rw [hW0]
  clear hW0
  go_loopw [5] (fun i wr => ∃ n : Nat, n ≤ 2 ∧ i = .int .i64 n ∧ Below (w.heap.size + 3) W0 wr) (fun i _ => 2 - (intOf i).toNat)
  case atStart => exact ⟨0, by omega, rfl, by rw [← hs0]; exact Below.refl _ _⟩
  case round =>
    obtain ⟨n, hn, rfl, hB⟩ := hrel
    have hbp := (hB.block _ (by omega)).trans hzp
    have hb0 := (hB.block _ (by omega)).trans hz0
    have hb1 := (hB.block _ (by omega)).trans hz1
    have hBw : Below w.heap.size w wr := hB0.trans (hB.mono (by omega))
    have hN : w.heap.size + 3 ≤ W0.heap.size := by omega
    clear hz0 hz1 hB0 hzp
    have hP : PickAt w.heap.size k r c f s v wr := ⟨blk_cell hbp 0, blk_cell hbp 1, blk_cell hbp 2, blk_cell hbp 3, blk_cell hbp 4, blk_cell hbp 5⟩
    have c0 := blk_cell hb1 0
    have c1 := blk_cell hb1 1
    have c9 := blk_cell hb0 9
    simp at c0 c1 c9
    have hsz : w.heap.size + 1 < wr.heap.size := by have := hB.size; omega
    have n0 : Carry w.heap.size (w.heap.size + 3) W0 k r c f s v none wr := ⟨hP, .inl rfl, by omega, hB, hN⟩
    have n1 : Carry w.heap.size (w.heap.size + 3) W0 k r c f s v (some ⟨w.heap.size + 1, 0, none⟩) wr := ⟨hP, .inr ⟨_, rfl, c9, hsz⟩, by omega, hB, hN⟩
    obtain ⟨p0, p1, p2, p3, p4, p5⟩ := hP
    clear hb0 hb1 hbp c9 hB
    by_cases h2 : n = 2
    · subst h2
      clear n0 n1
      go_wp2_with (first | (go_at_call 17; refine (copy_nil _).mono ?_; rintro e w' ⟨rfl, rfl⟩) | (go_at_call 18; refine (same_nil _).mono ?_; rintro e w' ⟨rfl, rfl⟩))
      go_ret
      exact ⟨rfl, hBw⟩
    · by_cases h0 : n = 0
      · subst h0
        clear n1
        go_wp2_with (go_at_call 8; refine (end_none _ r _ n0.2.1).mono ?_; rintro e w' ⟨rfl, rfl⟩)
        go_region_held3 (fun w' => w'.cell? ⟨w.heap.size, 0, none⟩ = some (.int .u8 k) ∧ w'.cell? ⟨w.heap.size, 1, none⟩ = some (.int .i64 r) ∧ w'.cell? ⟨w.heap.size, 2, none⟩ = some (.int .i64 c) ∧
            w'.cell? ⟨w.heap.size, 3, none⟩ = some (.int .i64 f) ∧ w'.cell? ⟨w.heap.size, 4, none⟩ = some (.int .i64 s) ∧ w'.cell? ⟨w.heap.size, 5, none⟩ = some (.int .i64 v))
          (first | assumption | go_keep)
          (first
            | (go_at_call 9; refine (n0.drew.calls (do_none none k r c f s v _)).mono ?_; rintro e w1 ⟨rfl, m1, hS⟩)
            | (go_at_call 10; refine (m1.calls (enabled_none none _)).mono ?_; rintro e w1 ⟨rfl, m2, hS⟩)
            | (go_at_call 11; refine (m2.still (signature_none none _)).mono ?_; rintro e w1 ⟨rfl, m3, hS⟩)
            | (go_at_call 12; refine (m3.still (memory_none none r _)).mono ?_; rintro e w1 ⟨rfl, m4, hS⟩)
            | (go_at_call 13; refine (m4.still (done_none none _)).mono ?_; rintro e w1 ⟨rfl, m5, hS⟩)
            | (go_at_call 14; refine (m5.calls (terminal_none none _)).mono ?_; rintro e w1 ⟨rfl, m6, hS⟩)
            | (go_at_call 15; refine (m6.calls (forcedp_none none k r c f s v _)).mono ?_; rintro e w1 ⟨rfl, m7, hS⟩)
            | (go_at_call 16; refine (m7.still (core_none none _)).mono ?_; rintro e w1 ⟨rfl, m8, hS⟩))
        go_wp2
        go_roundw
        case rel => exact ⟨1, by omega, by go_num, m8.2.2.2.1⟩
        case measure => simp [intOf]
      · obtain rfl : n = 1 := by omega
        clear n0
        go_wp2_with (go_at_call 8; refine (end_none _ r _ n1.2.1).mono ?_; rintro e w' ⟨rfl, rfl⟩)
        go_region_held3 (fun w' => w'.cell? ⟨w.heap.size, 0, none⟩ = some (.int .u8 k) ∧ w'.cell? ⟨w.heap.size, 1, none⟩ = some (.int .i64 r) ∧ w'.cell? ⟨w.heap.size, 2, none⟩ = some (.int .i64 c) ∧
            w'.cell? ⟨w.heap.size, 3, none⟩ = some (.int .i64 f) ∧ w'.cell? ⟨w.heap.size, 4, none⟩ = some (.int .i64 s) ∧ w'.cell? ⟨w.heap.size, 5, none⟩ = some (.int .i64 v))
          (first | assumption | go_keep)
          (first
            | (go_at_call 9; refine (n1.drew.calls (do_none (some ⟨w.heap.size + 1, 0, none⟩) k r c f s v _)).mono ?_; rintro e w1 ⟨rfl, m1, hS⟩)
            | (go_at_call 10; refine (m1.calls (enabled_none (some ⟨w.heap.size + 1, 0, none⟩) _)).mono ?_; rintro e w1 ⟨rfl, m2, hS⟩)
            | (go_at_call 11; refine (m2.still (signature_none (some ⟨w.heap.size + 1, 0, none⟩) _)).mono ?_; rintro e w1 ⟨rfl, m3, hS⟩)
            | (go_at_call 12; refine (m3.still (memory_none (some ⟨w.heap.size + 1, 0, none⟩) r _)).mono ?_; rintro e w1 ⟨rfl, m4, hS⟩)
            | (go_at_call 13; refine (m4.still (done_none (some ⟨w.heap.size + 1, 0, none⟩) _)).mono ?_; rintro e w1 ⟨rfl, m5, hS⟩)
            | (go_at_call 14; refine (m5.calls (terminal_none (some ⟨w.heap.size + 1, 0, none⟩) _)).mono ?_; rintro e w1 ⟨rfl, m6, hS⟩)
            | (go_at_call 15; refine (m6.calls (forcedp_none (some ⟨w.heap.size + 1, 0, none⟩) k r c f s v _)).mono ?_; rintro e w1 ⟨rfl, m7, hS⟩)
            | (go_at_call 16; refine (m7.still (core_none (some ⟨w.heap.size + 1, 0, none⟩) _)).mono ?_; rintro e w1 ⟨rfl, m8, hS⟩))
        go_wp2
        go_roundw
        case rel => exact ⟨2, by omega, by go_num, m8.2.2.2.1⟩
        case measure => simp [intOf]
end Go.Proofs.YtpdkajigldkpkaaGreatDoor
