/-
  The walks of a state that nobody made, up to the law FenceNil: every call of it comes back as the law says.
-/
import Derived.RangeFuncNested
import Derived.RangeFuncBound
import Derived.RangeFuncCalls
import Derived.RangeFuncLeaves
import Derived.Shelf.Abstract
import Derived.Shelf.RegionOpen
import Derived.WalkKit
import Derived.OwnWalkIn
import Derived.TacticsInMore
import Derived.LoopNIn
import Derived.LoopIn
import Derived.KernelRfl
import Derived.Outline
import Derived.WalkMore
import Derived.Test.YtpdkajigldkpkaaGreatDoorProg
namespace Go.Proofs.YtpdkajigldkpkaaGreatDoor
open Go.RowKit Go.Shelf
attribute [local go_sem] Oper.semAt_some

theorem cell_of_box_l {W : World} {B : Nat} {v : Value} {t : TypeId} (h : W.heap[B]? = some (.cells #[v] t (0, 0))) : W.cell? ⟨B, 0, none⟩ = some v ∧ W.frozen? ⟨B, 0, none⟩ = false := by
  constructor <;> simp [World.cell?, World.frozen?, h]
theorem blk_cell {W : World} {b : Nat} {cs : Array Value} {t : TypeId} (h : W.heap[b]? = some (.cells cs t (0, 0))) (i : Nat) : W.cell? ⟨b, i, none⟩ = cs[i]? := by simp [World.cell?, h]
theorem blk_frz {W : World} {b : Nat} {cs : Array Value} {t : TypeId} (h : W.heap[b]? = some (.cells cs t (0, 0))) (i : Nat) : W.frozen? ⟨b, i, none⟩ = false := by simp [World.frozen?, h]
theorem set_blk {W : World} {b : Nat} {cs : Array Value} {t : TypeId} {fr : Nat × Nat} (h : W.heap[b]? = some (.cells cs t fr)) (i : Nat) (v : Value) :
    (W.setCell ⟨b, i, none⟩ v).heap[b]? = some (.cells (cs.setIfInBounds i v) t fr) := by
  simp [World.setCell, Array.getElem?_modify, h]
theorem set_blk_ne {W : World} {b c : Nat} (h : b ≠ c) (i : Nat) (v : Value) : (W.setCell ⟨b, i, none⟩ v).heap[c]? = W.heap[c]? := by
  simp [World.setCell, Array.getElem?_modify, h]
theorem cell_new_l (W : World) (v : Value) (t : TypeId) : (W.alloc (.cells #[v] t)).cell? ⟨W.heap.size, 0, none⟩ = some v ∧ (W.alloc (.cells #[v] t)).frozen? ⟨W.heap.size, 0, none⟩ = false :=
  cell_of_box_l (World.alloc_heap_new W _)

/-- A state that nobody made: nil, or one without ranks. -/
def NoState (w : World) (p : Option Addr) : Prop := p = none ∨ ∃ b, p = some ⟨b, 0, none⟩ ∧ w.cell? ⟨b, 9, none⟩ = some (.slice none 0 0) ∧ b < w.heap.size

theorem NoState.below {w w' : World} {p : Option Addr} (hb : Below w.heap.size w w') (h : NoState w p) : NoState w' p := by
  rcases h with rfl | ⟨b, rfl, hc, hl⟩
  · exact .inl rfl
  · exact .inr ⟨b, rfl, (hb.cell (p := ⟨b, 9, none⟩) hl).trans hc, Nat.lt_of_lt_of_le hl hb.size⟩

set_option maxRecDepth 100000 in
theorem none_yes (p : Option Addr) (w : World) (h : NoState w p) : Calls Tryz.prog 22 #[.pointer p] w fun e w' => e = .returned (.bool true) ∧ w = w' := by
  rcases h with rfl | ⟨b, rfl, hc, hl⟩
  · go_enter Tryz.func22, Tryz.ntmps22
    go_wp2
    go_ret
    exact ⟨rfl, rfl⟩
  · go_enter Tryz.func22, Tryz.ntmps22
    go_wp2
    go_ret
    exact ⟨rfl, rfl⟩

set_option maxRecDepth 100000 in
theorem picks_any (p : Option Addr) (w : World) : Calls Tryz.prog 28 #[.pointer p] w fun e w' => e = .returned (.func (.func 52) #[] #[.pointer (some ⟨w.heap.size, 0, none⟩)]) ∧ w.alloc (.cells #[.pointer p] 22) = w' := by
  go_enter Tryz.func28, Tryz.ntmps28
  go_wp2
  go_ret
  exact ⟨rfl, rfl⟩

set_option maxRecDepth 100000 in
theorem picks1_none (l B : Nat) (p : Option Addr) (w : World) (hB : w.cell? ⟨B, 0, none⟩ = some (.pointer p)) (h : NoState w p) :
    Calls Tryz.prog 52 #[.func (.yield l) #[] #[], .pointer (some ⟨B, 0, none⟩)] w fun e w' => e = .returned (.tuple #[]) ∧ w = w' := by
  go_enter Tryz.func52, Tryz.ntmps52
  go_wp2_with (go_at_call 22; refine (none_yes _ _ h).mono ?_; rintro e w' ⟨rfl, rfl⟩)
  refine bodyPost_ret (results_none rfl _ _ _) rfl ?_
  exact ⟨rfl, rfl⟩

theorem grown_below' {w w' : World} (h : Below w.heap.size w w') (row : Option Nat) : w.grownBy w' row := ⟨h.os, h.tape, h.output, h.size, fun k hk _ => h.block k hk⟩

/-- A function value that yields nothing, and may make memory. -/
def YieldsB (w : World) (g : Nat) (lb : Array Value) : Prop := ∀ l W, Below w.heap.size w W → Calls Tryz.prog g (#[.func (.yield l) #[] #[]] ++ lb) W fun e W' => e = .returned (.tuple #[]) ∧ Below W.heap.size W W'

theorem YieldsB.stops {w : World} {g : Nat} {lb : Array Value} (h : YieldsB w g lb) (n m : Nat) (Kp : World → World → Prop) :
    SeqStopsK Fence.wide n Tryz.prog g lb (fun _ : Empty => Array.replicate m undef) Kp (fun _ => True) (fun _ => False) 0 w := by
  intro l J Jx W hW hJ _ _ h0
  refine callsIn_wide.2 ((h l W hW).mono ?_)
  rintro e W' ⟨rfl, hb⟩
  exact ⟨⟨_, rfl⟩, .inl ⟨[], trivial, hJ [] W W' none h0 (grown_below' hb none) (fun r e => by cases e)⟩⟩

/-- A range over a function that yields nothing: on behind it. -/
theorem rf_none {g : Operand} {ps : Array Tmp} {assign body : Code} {Q : Exit → Act → World → Prop} {a : Act} {w : World} {gf : Nat} {lb : Array Value}
    (hg : a.eval g = .func (.func gf) #[] lb) (eg : ∀ args w, (callFunc gf args).run Tryz.prog w = .ok (.enter gf args) w) (h : YieldsB w gf lb)
    (hdone : ∀ D W, w.heap.size ≤ D → Below w.heap.size w W → W.heap[D]? = some (.deferred (some [])) → Q .normal { a with defers := { target := .collected D, args := #[] } :: a.defers } W) :
    (Code.rangeFunc g ps assign body).wpIn Fence.wide 5 Tryz.prog Q a w :=
  wpIn_rangeFunc_ownF rfl (by omega) (gf := gf) (lb := lb) hg trivial eg
    (h.stops 4 ps.size (Below w.heap.size)) belowK_t (belowK_b (Nat.le_refl _)) (Below.refl _ _) (fun _ => by simp)
    (fun _ W => Below w.heap.size w W)
    (fun _ _ _ => False)
    (ownFrom_below (Nat.le_refl _) (Nat.le_refl _))
    (fun _ _ _ _ _ hs _ _ => hs)
    (Below.refl _ _)
    (fun x => nomatch x) (fun _ x => nomatch x) (fun _ _ x => nomatch x)
    (fun D _ W hD _ hB hK => hdone D W hD hB hK)
    (fun _ _ _ _ _ _ h => h.elim)

theorem below_deferred {w W : World} {D : Nat} (hb : Below w.heap.size w W) (hD : w.heap.size ≤ D) (hK : W.heap[D]? = some (.deferred (some []))) : Below w.heap.size w (W.putObj D (.deferred none)) :=
  hb.trans (belowK_b (w := w) (Nat.le_refl _) W D _ _ hD hK rfl rfl)

set_option maxRecDepth 100000 in
set_option maxHeartbeats 1000000 in
theorem appendSeq_none (g : Nat) (lb : Array Value) (w : World) (eg : ∀ args w, (callFunc g args).run Tryz.prog w = .ok (.enter g args) w) (h : YieldsB w g lb) :
    Calls Tryz.prog 51 #[.slice none 0 0, .func (.func g) #[] lb] w fun e w' => e = .returned (.slice none 0 0) ∧ Below w.heap.size w w' := by
  have hB1 : Below w.heap.size w (w.alloc (.cells #[.slice none 0 0] 35)) := (Below.refl _ w).alloc (Nat.le_refl _) _
  have h1 : YieldsB (w.alloc (.cells #[.slice none 0 0] 35)) g lb := fun l W hW => h l W (hB1.trans (hW.mono (by simp)))
  have hc := cell_new_l w (.slice none 0 0) 35
  refine (callsIn_wide (n := 5)).1 ?_
  refine callsIn_of_wp_marks Tryz.func51 rfl trivial ?_ rfl
  simp only [Tryz.ntmps51, List.size_toArray, List.length_cons, List.length_nil, Nat.reduceAdd, Nat.reduceSub, Array.replicate_succ, Array.replicate_zero, List.push_toArray, List.append_toArray, List.nil_append, List.cons_append]
  gi_wp2
  refine rf_none rfl eg h1 ?_
  intro D W hD hB hK
  have hcW : W.cell? ⟨w.heap.size, 0, none⟩ = some (.slice none 0 0) := (hB.cell (p := ⟨w.heap.size, 0, none⟩) (by simp)).trans hc.1
  have hBW : Below w.heap.size w W := hB1.trans (hB.mono (by simp))
  gi_wp2
  refine ⟨by simp, .inl ⟨_, _, rfl, run_takeDeferred hK, ?_⟩⟩
  exact ⟨_, results_tmp rfl _ _ _, rfl, below_deferred hBW (by simp at hD; omega) hK⟩

theorem enters115 (args : Array Value) (w : World) : (callFunc 52 args).run Tryz.prog w = .ok (.enter 52 args) w := enters_of Tryz.func52 (by kernel_rfl) rfl args w
theorem enters104 (args : Array Value) (w : World) : (callFunc 40 args).run Tryz.prog w = .ok (.enter 40 args) w := enters_of Tryz.func40 (by kernel_rfl) rfl args w

theorem picks1_yields (B : Nat) (p : Option Addr) (w : World) (hl : B < w.heap.size) (hB : w.cell? ⟨B, 0, none⟩ = some (.pointer p)) (h : NoState w p) : YieldsB w 52 #[.pointer (some ⟨B, 0, none⟩)] :=
  fun l W hW => (picks1_none l B p W ((hW.cell (p := ⟨B, 0, none⟩) hl).trans hB) (h.below hW)).mono (by rintro e w' ⟨rfl, rfl⟩; exact ⟨rfl, Below.refl _ _⟩)

set_option maxRecDepth 100000 in
theorem collect_none (g : Nat) (lb : Array Value) (w : World) (eg : ∀ args w, (callFunc g args).run Tryz.prog w = .ok (.enter g args) w) (h : YieldsB w g lb) :
    Calls Tryz.prog 27 #[.func (.func g) #[] lb] w fun e w' => e = .returned (.slice none 0 0) ∧ Below w.heap.size w w' := by
  go_enter Tryz.func27, Tryz.ntmps27
  go_wp2_with (go_at_call 51; refine (appendSeq_none g lb _ eg h).mono ?_; rintro e w' ⟨rfl, hb⟩)
  go_ret
  exact ⟨rfl, hb⟩

set_option maxRecDepth 100000 in
theorem enabled_none (p : Option Addr) (w : World) (h : NoState w p) :
    Calls Tryz.prog 10 #[.pointer p] w fun e w' => e = .returned (.slice none 0 0) ∧ Below w.heap.size w w' := by
  have hb1 : Below w.heap.size w (w.alloc (.cells #[.pointer p] 22)) := (Below.refl _ w).alloc (Nat.le_refl _) _
  have hy : YieldsB (w.alloc (.cells #[.pointer p] 22)) 52 #[.pointer (some ⟨w.heap.size, 0, none⟩)] := picks1_yields _ p _ (by simp) (cell_new_l _ _ _).1 (h.below hb1)
  go_enter Tryz.func10, Tryz.ntmps10
  go_wp2_with (first | (go_at_call 28; refine (picks_any p _).mono ?_; rintro e w' ⟨rfl, rfl⟩) | (go_at_call 27; refine (collect_none 52 _ _ enters115 hy).mono ?_; rintro e w' ⟨rfl, hb⟩))
  go_ret
  exact ⟨rfl, hb1.trans (hb.mono (by simp))⟩

set_option maxRecDepth 100000 in
theorem forced_any (p : Option Addr) (w : World) : Calls Tryz.prog 20 #[.pointer p] w fun e w' => e = .returned (.func (.func 40) #[] #[.pointer (some ⟨w.heap.size, 0, none⟩)]) ∧ w.alloc (.cells #[.pointer p] 22) = w' := by
  go_enter Tryz.func20, Tryz.ntmps20
  go_wp2
  go_ret
  exact ⟨rfl, rfl⟩

set_option maxRecDepth 100000 in
theorem forced1_none (l B : Nat) (p : Option Addr) (w : World) (hB : w.cell? ⟨B, 0, none⟩ = some (.pointer p)) (h : NoState w p) :
    Calls Tryz.prog 40 #[.func (.yield l) #[] #[], .pointer (some ⟨B, 0, none⟩)] w fun e w' => e = .returned (.tuple #[]) ∧ Below w.heap.size w w' := by
  go_enter Tryz.func40, Tryz.ntmps40
  go_wp2_with (go_at_call 10; refine (enabled_none _ _ h).mono ?_; rintro e w' ⟨rfl, hb⟩)
  go_loop [8] (fun i => i = .int .i64 0) (fun _ => 0)
  case atStart => rfl
  case round =>
    subst hrel
    go_wp2
    go_end0
    exact ⟨rfl, hb⟩

theorem forced1_yields (B : Nat) (p : Option Addr) (w : World) (hl : B < w.heap.size) (hB : w.cell? ⟨B, 0, none⟩ = some (.pointer p)) (h : NoState w p) : YieldsB w 40 #[.pointer (some ⟨B, 0, none⟩)] :=
  fun l W hW => forced1_none l B p W ((hW.cell (p := ⟨B, 0, none⟩) hl).trans hB) (h.below hW)
set_option maxRecDepth 100000 in
set_option maxHeartbeats 1000000 in
theorem first_none (p : Option Addr) (w : World) (h : NoState w p) :
    Calls Tryz.prog 19 #[.pointer p] w fun e w' => e = .returned (.tuple #[.agg #[.int .u8 0, .int .i64 0, .int .i64 0, .int .i64 0, .int .i64 0, .int .i64 0], .bool false]) ∧ Below w.heap.size w w' := by
  refine (callsIn_wide (n := 5)).1 ?_
  refine callsIn_of_wp_marks Tryz.func19 rfl trivial ?_ rfl
  simp only [Tryz.ntmps19, List.size_toArray, List.length_cons, List.length_nil, Nat.reduceAdd, Nat.reduceSub, Array.replicate_succ, Array.replicate_zero, List.push_toArray, List.append_toArray, List.nil_append, List.cons_append]
  have hb0 : Below w.heap.size w ((w.alloc (.cells #[.int .u8 0, .int .i64 0, .int .i64 0, .int .i64 0, .int .i64 0, .int .i64 0] 43)).alloc (.cells #[.bool false] 4)) := ((Below.refl _ w).alloc (Nat.le_refl _) _).alloc (by simp) _
  have hb1 := hb0.alloc (by simp; omega) (.cells #[.pointer p] 22)
  have hp := cell_new_l ((w.alloc (.cells #[.int .u8 0, .int .i64 0, .int .i64 0, .int .i64 0, .int .i64 0, .int .i64 0] 43)).alloc (.cells #[.bool false] 4)) (.pointer p) 22
  simp only [World.size_alloc] at hp
  have hy := forced1_yields (w.heap.size + 1 + 1) p _ (by simp) hp.1 (h.below hb1)
  have hz : (((w.alloc (.cells #[.int .u8 0, .int .i64 0, .int .i64 0, .int .i64 0, .int .i64 0, .int .i64 0] 43)).alloc (.cells #[.bool false] 4)).alloc (.cells #[.pointer p] 22)).heap[w.heap.size]? = some (.cells #[.int .u8 0, .int .i64 0, .int .i64 0, .int .i64 0, .int .i64 0, .int .i64 0] 43 (0, 0)) := by
    exact (Below.heap_alloc _ _ _ (by simp; omega)).trans ((Below.heap_alloc _ _ _ (by simp)).trans (World.alloc_heap_new w _))
  have hz2 : (((w.alloc (.cells #[.int .u8 0, .int .i64 0, .int .i64 0, .int .i64 0, .int .i64 0, .int .i64 0] 43)).alloc (.cells #[.bool false] 4)).alloc (.cells #[.pointer p] 22)).heap[w.heap.size + 1]? = some (.cells #[.bool false] 4 (0, 0)) := by
    have := World.alloc_heap_new (w.alloc (.cells #[.int .u8 0, .int .i64 0, .int .i64 0, .int .i64 0, .int .i64 0, .int .i64 0] 43)) (.cells #[.bool false] 4)
    rw [World.size_alloc] at this
    exact (Below.heap_alloc _ _ _ (by simp)).trans this
  gi_wp2_with (refine ⟨trivial, ?_⟩; gi_at_call 20; refine (callsIn_wide.2 (forced_any p _)).mono ?_; rintro e w' ⟨rfl, rfl⟩)
  refine rf_none rfl enters104 hy ?_
  intro D W hD hB hK
  have hzW := (hB.block _ (by simp; omega)).trans hz
  have hzW2 := (hB.block _ (by simp)).trans hz2
  have hBW : Below w.heap.size w W := hb1.trans (hB.mono (by simp; omega))
  have hDW : w.heap.size ≤ D := by simp at hD; omega
  clear hz hz2 hb0 hb1 hp hy hB hD
  have c0 := blk_cell hzW 0
  have c1 := blk_cell hzW 1
  have c2 := blk_cell hzW 2
  have c3 := blk_cell hzW 3
  have c4 := blk_cell hzW 4
  have c5 := blk_cell hzW 5
  have d0 := blk_cell hzW2 0
  simp at c0 c1 c2 c3 c4 c5 d0
  have f0 := blk_frz hzW 0
  have f1 := blk_frz hzW 1
  have f2 := blk_frz hzW 2
  have f3 := blk_frz hzW 3
  have f4 := blk_frz hzW 4
  have f5 := blk_frz hzW 5
  have g0 := blk_frz hzW2 0
  gi_wp2
  generalize hW1 : (((((((W.setCell { block := w.heap.size, off := 0 } (Value.int IntKind.u8 0)).setCell
                          { block := w.heap.size, off := 1 } (Value.int IntKind.i64 0)).setCell
                      { block := w.heap.size, off := 2 } (Value.int IntKind.i64 0)).setCell
                  { block := w.heap.size, off := 3 } (Value.int IntKind.i64 0)).setCell
              { block := w.heap.size, off := 4 } (Value.int IntKind.i64 0)).setCell
          { block := w.heap.size, off := 5 } (Value.int IntKind.i64 0)).setCell
      { block := w.heap.size + 1, off := 0 } (Value.bool false)) = W1
  have hne : w.heap.size + 1 ≠ w.heap.size := by omega
  have k0 : W1.heap[w.heap.size]? = some (.cells #[.int .u8 0, .int .i64 0, .int .i64 0, .int .i64 0, .int .i64 0, .int .i64 0] 43 (0, 0)) := by
    rw [← hW1, set_blk_ne hne]; exact set_blk (set_blk (set_blk (set_blk (set_blk (set_blk hzW 0 _) 1 _) 2 _) 3 _) 4 _) 5 _
  have k1 : W1.heap[w.heap.size + 1]? = some (.cells #[.bool false] 4 (0, 0)) := by
    rw [← hW1]
    refine set_blk (cs := #[.bool false]) ?_ 0 _
    rw [set_blk_ne hne.symm, set_blk_ne hne.symm, set_blk_ne hne.symm, set_blk_ne hne.symm, set_blk_ne hne.symm, set_blk_ne hne.symm]; exact hzW2
  have hDne : w.heap.size ≠ D := fun e => by rw [e, hK] at hzW; cases hzW
  have hDne1 : w.heap.size + 1 ≠ D := fun e => by rw [e, hK] at hzW2; cases hzW2
  have k2 : W1.heap[D]? = some (.deferred (some [])) := by
    rw [← hW1, set_blk_ne hDne1, set_blk_ne hDne, set_blk_ne hDne, set_blk_ne hDne, set_blk_ne hDne, set_blk_ne hDne, set_blk_ne hDne]; exact hK
  have k3 : Below w.heap.size w W1 := by
    rw [← hW1]; exact ((((((hBW.setCell (by simp) _).setCell (by simp) _).setCell (by simp) _).setCell (by simp) _).setCell (by simp) _).setCell (by simp) _).setCell (by simp) _
  refine ⟨by simp, .inl ⟨_, _, rfl, run_takeDeferred k2, ?_⟩⟩
  have k5 : (W1.putObj D (.deferred none)).heap[w.heap.size]? = some (.cells #[.int .u8 0, .int .i64 0, .int .i64 0, .int .i64 0, .int .i64 0, .int .i64 0] 43 (0, 0)) := by
    rw [← k0]; simp [World.putObj, hDne.symm]
  have k6 : (W1.putObj D (.deferred none)).heap[w.heap.size + 1]? = some (.cells #[.bool false] 4 (0, 0)) := by
    rw [← k1]; simp [World.putObj, hDne1.symm]
  refine ⟨_, ?_, rfl, below_deferred k3 hDW k2⟩
  have e0 := blk_cell k5 0
  have e1 := blk_cell k5 1
  have e2 := blk_cell k5 2
  have e3 := blk_cell k5 3
  have e4 := blk_cell k5 4
  have e5 := blk_cell k5 5
  have e6 := blk_cell k6 0
  simp at e0 e1 e2 e3 e4 e5 e6
  simp [results, Tryz.results19, go_sem, e0, e1, e2, e3, e4, e5, e6]

set_option maxRecDepth 100000 in
theorem is_none (p : Option Addr) (w : World) (h : NoState w p) :
    Calls Tryz.prog 6 #[.pointer p] w fun e w' => e = .returned (.bool true) ∧ Below w.heap.size w w' := by
  go_enter Tryz.func6, Tryz.ntmps6
  go_wp2_with (go_at_call 19; refine (first_none _ _ h).mono ?_; rintro e w1 ⟨rfl, hb⟩)
  go_ret
  exact ⟨rfl, hb.alloc hb.size _⟩

set_option maxRecDepth 100000 in
theorem core_none (p : Option Addr) (w : World) (h : NoState w p) :
    Calls Tryz.prog 16 #[.pointer p] w fun e w' => e = .returned (.pointer none) ∧ w = w' := by
  go_enter Tryz.func16, Tryz.ntmps16
  go_wp2_with (go_at_call 22; refine (none_yes _ _ h).mono ?_; rintro e w' ⟨rfl, rfl⟩)
  go_ret
  exact ⟨rfl, rfl⟩

set_option maxRecDepth 100000 in
theorem to_none (p : Option Addr) (m : Int) (w : World) (h : NoState w p) :
    Calls Tryz.prog 5 #[.pointer p, .int .i64 m] w fun e w' => e = .returned (.tuple #[.slice none 0 0, .int .i64 1]) ∧ w = w' := by
  cases p with
  | none =>
    go_enter Tryz.func5, Tryz.ntmps5
    go_wp2
    go_step3
    go_wp2
    rw [Exit.noGoto_ret]
    go_ret2
    exact ⟨rfl, rfl⟩
  | some a =>
    go_enter Tryz.func5, Tryz.ntmps5
    go_wp2
    go_step3
    go_wp2_with (go_at_call 16; refine (core_none _ _ h).mono ?_; rintro e w' ⟨rfl, rfl⟩)
    rw [Exit.noGoto_ret]
    go_ret2
    exact ⟨rfl, rfl⟩

set_option maxRecDepth 100000 in
set_option maxHeartbeats 1000000 in
theorem forcedl_none (p : Option Addr) (w : World) (h : NoState w p) :
    Calls Tryz.prog 7 #[.pointer p] w fun e w' => e = .returned (.slice none 0 0) ∧ Below w.heap.size w w' := by
  have hb0 : Below w.heap.size w (w.alloc (.cells #[.slice none 0 0] 35)) := (Below.refl _ w).alloc (Nat.le_refl _) _
  have hb1 := hb0.alloc (by simp) (.cells #[.pointer p] 22)
  have hp := cell_new_l (w.alloc (.cells #[.slice none 0 0] 35)) (.pointer p) 22
  simp only [World.size_alloc] at hp
  have hy := forced1_yields (w.heap.size + 1) p _ (by simp) hp.1 (h.below hb1)
  have hz : ((w.alloc (.cells #[.slice none 0 0] 35)).alloc (.cells #[.pointer p] 22)).heap[w.heap.size]? = some (.cells #[.slice none 0 0] 35 (0, 0)) :=
    (Below.heap_alloc _ _ _ (by simp)).trans (World.alloc_heap_new w _)
  refine (callsIn_wide (n := 5)).1 ?_
  refine callsIn_of_wp_marks Tryz.func7 rfl trivial ?_ rfl
  simp only [Tryz.ntmps7, List.size_toArray, List.length_cons, List.length_nil, Nat.reduceAdd, Nat.reduceSub, Array.replicate_succ, Array.replicate_zero, List.push_toArray, List.append_toArray, List.nil_append, List.cons_append]
  gi_wp2_with (refine ⟨trivial, ?_⟩; gi_at_call 20; refine (callsIn_wide.2 (forced_any p _)).mono ?_; rintro e w' ⟨rfl, rfl⟩)
  refine rf_none rfl enters104 hy ?_
  intro D W hD hB hK
  have hzW := (hB.block _ (by simp; omega)).trans hz
  have hBW : Below w.heap.size w W := hb1.trans (hB.mono (by simp; omega))
  have hDW : w.heap.size ≤ D := by simp at hD; omega
  clear hz hb0 hb1 hp hy hB hD
  have c0 := blk_cell hzW 0
  simp at c0
  gi_wp2
  refine ⟨by simp, .inl ⟨_, _, rfl, run_takeDeferred hK, ?_⟩⟩
  exact ⟨_, results_tmp rfl _ _ _, rfl, below_deferred hBW hDW hK⟩

set_option maxRecDepth 100000 in
set_option maxHeartbeats 1000000 in
theorem fenceNil_true (m : Int) (w : World) :
    Calls Tryz.prog 3 #[.int .i64 m] w fun e w' => e = .returned (.bool true) ∧ Below w.heap.size w w' := by
  go_enter Tryz.func3, Tryz.ntmps3
  go_wp2
  obtain ⟨W0, hW0⟩ : ∃ W0, (w.alloc (Obj.cells #[Value.slice none 0 0, Value.int IntKind.i64 0, Value.slice none 0 0, Value.int IntKind.i64 0,
            Value.int IntKind.i64 0, Value.bool false, Value.int IntKind.i64 0, Value.int IntKind.i64 0,
            Value.int IntKind.i64 0, Value.slice none 0 0, Value.pointer none, Value.slice none 0 0,
            Value.int IntKind.i64 0] 33)).alloc (Obj.cells #[Value.pointer none, Value.pointer (some { block := w.heap.size, off := 0 })] 22) = W0 := ⟨_, rfl⟩
  have hs0 : W0.heap.size = w.heap.size + 2 := by rw [← hW0]; simp
  have hB0 : Below w.heap.size w W0 := by rw [← hW0]; exact ((Below.refl _ w).alloc (Nat.le_refl _) _).alloc (by simp) _
  have hz0 : W0.heap[w.heap.size]? = some (.cells #[Value.slice none 0 0, Value.int IntKind.i64 0, Value.slice none 0 0, Value.int IntKind.i64 0,
            Value.int IntKind.i64 0, Value.bool false, Value.int IntKind.i64 0, Value.int IntKind.i64 0,
            Value.int IntKind.i64 0, Value.slice none 0 0, Value.pointer none, Value.slice none 0 0,
            Value.int IntKind.i64 0] 33 (0, 0)) := by rw [← hW0]; exact (Below.heap_alloc _ _ _ (by simp)).trans (World.alloc_heap_new w _)
  have hz1 : W0.heap[w.heap.size + 1]? = some (.cells #[Value.pointer none, Value.pointer (some { block := w.heap.size, off := 0 })] 22 (0, 0)) := by
    rw [← hW0]
    have := World.alloc_heap_new (w.alloc (Obj.cells #[Value.slice none 0 0, Value.int IntKind.i64 0, Value.slice none 0 0, Value.int IntKind.i64 0,
            Value.int IntKind.i64 0, Value.bool false, Value.int IntKind.i64 0, Value.int IntKind.i64 0,
            Value.int IntKind.i64 0, Value.slice none 0 0, Value.pointer none, Value.slice none 0 0,
            Value.int IntKind.i64 0] 33)) (Obj.cells #[Value.pointer none, Value.pointer (some { block := w.heap.size, off := 0 })] 22)
    rwa [World.size_alloc] at this
  rw [hW0]
  clear hW0
  go_loopw [5] (fun i wr => ∃ k : Nat, k ≤ 2 ∧ i = .int .i64 k ∧ Below (w.heap.size + 2) W0 wr) (fun i _ => 2 - (intOf i).toNat)
  case atStart => exact ⟨0, by omega, rfl, by rw [← hs0]; exact Below.refl _ _⟩
  case round =>
    obtain ⟨k, hk, rfl, hB⟩ := hrel
    have hb0 := (hB.block _ (by omega)).trans hz0
    have hb1 := (hB.block _ (by omega)).trans hz1
    have hBw : Below w.heap.size w wr := hB0.trans (hB.mono (by omega))
    clear hz0 hz1 hB0
    have c0 := blk_cell hb1 0
    have c1 := blk_cell hb1 1
    have c9 := blk_cell hb0 9
    simp at c0 c1 c9
    have hsz : w.heap.size < wr.heap.size := by have := hB.size; omega
    have n0 : NoState wr none := .inl rfl
    have n1 : NoState wr (some ⟨w.heap.size, 0, none⟩) := .inr ⟨_, rfl, c9, hsz⟩
    clear hb0 hb1
    by_cases h2 : k = 2
    · subst h2
      go_wp2
      go_ret
      exact ⟨rfl, hBw⟩
    · by_cases h0 : k = 0
      · subst h0
        go_wp2_with fail
        refine (to_none _ m _ n0).mono ?_
        rintro e w' ⟨rfl, rfl⟩
        go_wp2_with fail
        refine (is_none _ _ n0).mono ?_
        rintro e w1 ⟨rfl, hb1⟩
        have cc := (hb1.cell (p := ⟨w.heap.size + 1, 0, none⟩) (by have := hB.size; simp; omega)).trans c0
        have nn := n0.below hb1
        go_wp2_with fail
        refine (forcedl_none _ _ nn).mono ?_
        rintro e w2 ⟨rfl, hb2⟩
        have hBB := (hB.trans (hb1.mono (by have := hB.size; omega))).trans (hb2.mono (by have := hB.size; have := hb1.size; omega))
        clear cc nn hb1 hb2
        go_wp2
        go_roundw
        case rel => exact ⟨1, by omega, by go_num, hBB⟩
        case measure => simp [intOf]
      · obtain rfl : k = 1 := by omega
        go_wp2_with fail
        refine (to_none _ m _ n1).mono ?_
        rintro e w' ⟨rfl, rfl⟩
        go_wp2_with fail
        refine (is_none _ _ n1).mono ?_
        rintro e w1 ⟨rfl, hb1⟩
        have cc := (hb1.cell (p := ⟨w.heap.size + 1, 1, none⟩) (by have := hB.size; simp; omega)).trans c1
        have nn := n1.below hb1
        go_wp2_with fail
        refine (forcedl_none _ _ nn).mono ?_
        rintro e w2 ⟨rfl, hb2⟩
        have hBB := (hB.trans (hb1.mono (by have := hB.size; omega))).trans (hb2.mono (by have := hB.size; have := hb1.size; omega))
        clear cc nn hb1 hb2
        go_wp2
        go_roundw
        case rel => exact ⟨2, by omega, by go_num, hBB⟩
        case measure => simp [intOf]
end Go.Proofs.YtpdkajigldkpkaaGreatDoor
