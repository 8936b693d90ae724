/-
  A part of the proof of WitnessTexts: contracts of functions that the law reaches.
-/
import Derived.Test.YtlohcmnckfndlaaDoorPartW16b
import Derived.Deep.RegionLawGrows
import Derived.Maps.RangeWalk
namespace Go.Proofs.YtlohcmnckfndlaaDoor
open Go Go.RowKit Go.Shelf
attribute [local go_sem] Oper.semAt_some

set_option maxRecDepth 100000 in
theorem splitseq_any (s : List UInt8) (w : World) :
    Calls Tryd.prog 13 #[.string (bs s), .string (bs [32])] w fun e w' => e = .returned (.func (.func 31) #[] #[.pointer (some ⟨w.heap.size + 1, 0, none⟩), .pointer (some ⟨w.heap.size, 0, none⟩), .pointer (some ⟨w.heap.size + 2, 0, none⟩)]) ∧
      w' = ((w.alloc (.cells #[.string (bs s)] 9)).alloc (.cells #[.string (bs [32])] 9)).alloc (.cells #[.int .i64 0] 3) := by
  go_enter Tryd.func13, Tryd.ntmps13
  go_wp2
  go_ret
  exact ⟨rfl, rfl⟩

theorem boxes_new (s : List UInt8) (w : World) : Boxes w.heap.size s (((w.alloc (.cells #[.string (bs s)] 9)).alloc (.cells #[.string (bs [32])] 9)).alloc (.cells #[.int .i64 0] 3)) := by
  refine ⟨?_, ?_, ?_⟩
  · exact (Below.heap_alloc _ _ _ (by rw [sz, sz]; omega)).trans ((Below.heap_alloc _ _ _ (by rw [sz]; omega)).trans (heap_alloc_new _ _))
  · refine (Below.heap_alloc _ _ _ (by rw [sz, sz]; omega)).trans ?_
    have := heap_alloc_new (w.alloc (.cells #[.string (bs s)] 9)) (.cells #[.string (bs [32])] 9)
    rw [sz] at this; exact this
  · have := heap_alloc_new ((w.alloc (.cells #[.string (bs s)] 9)).alloc (.cells #[.string (bs [32])] 9)) (.cells #[.int .i64 0] 3)
    rw [sz, sz] at this; exact this

/-- The schedule that has been read so far: in its box TB, in a row of its own beyond N0. -/
def OutAt (TB N0 : Nat) (l : List Pk) (w : World) : Prop :=
  ∃ v : Value, w.heap[TB]? = some (.cells #[v] 22 (0, 0)) ∧ ((v = .slice none 0 0 ∧ l = []) ∨ ∃ (g cap : Nat) (cur : Array Value), v = .slice (some ⟨g, 0, none⟩) l.length cap ∧ l.length ≤ cap ∧ N0 ≤ g ∧ w.heap[g]? = some (.cells cur 36 (0, 0)) ∧ ∀ (i : Nat) (u : Value), (Ps l)[i]? = some u → cur[i]? = some u)

theorem OutAt.kept {TB N0 : Nat} {l : List Pk} {w w' : World} (h : OutAt TB N0 l w) (hk : ∀ (k : Nat) (o : Obj), w.heap[k]? = some o → (k = TB ∨ N0 ≤ k) → o.isCells = true → w'.heap[k]? = some o) : OutAt TB N0 l w' := by
  obtain ⟨v, hv, h⟩ := h
  refine ⟨v, hk _ _ hv (.inl rfl) rfl, ?_⟩
  rcases h with h | ⟨g, cap, cur, h1, h2, h3, h4, h5⟩
  · exact .inl h
  · exact .inr ⟨g, cap, cur, h1, h2, h3, hk _ _ h4 (.inr h3) rfl, h5⟩

/-- What it is good for: a slice whose cells are these. -/
theorem OutAt.slice {TB N0 : Nat} {l : List Pk} {w : World} (h : OutAt TB N0 l w) : ∃ (ao : Option Addr) (cap : Nat), w.heap[TB]? = some (.cells #[.slice ao l.length cap] 22 (0, 0)) ∧ l.length ≤ cap ∧ (ao = none → l.length = 0 ∧ cap = 0) ∧
    (∀ b, ao = some b → ∀ j u, (Ps l)[j]? = some u → w.cell? (b.add j) = some u) ∧ PkRow w ao l := by
  obtain ⟨v, hv, ⟨rfl, rfl⟩ | ⟨g, cap, cur, rfl, h2, h3, h4, h5⟩⟩ := h
  · exact ⟨none, 0, hv, Nat.le_refl _, fun _ => ⟨rfl, rfl⟩, (fun b h => by cases h), .inl rfl⟩
  · have hg : g < w.heap.size := (Array.getElem?_eq_some_iff.1 h4).1
    refine ⟨some ⟨g, 0, none⟩, cap, hv, h2, (fun h => by cases h), fun b hb j u hu => ?_, .inr ⟨g, 0, rfl, hg, fun i p hi => ?_⟩⟩
    · cases hb
      have : (⟨g, 0, none⟩ : Addr).add j = ⟨g, j, none⟩ := by unfold Addr.add; split <;> simp_all
      rw [this, blk_cell h4]; exact h5 j u hu
    · have hc : ∀ j u, j < 6 → (pkCells p).toList[j]? = some u → w.cell? ⟨g, i * 6 + j, none⟩ = some u := by
        intro j u hj hu
        rw [blk_cell h4]
        exact h5 _ _ (by rw [ps_get l i j p hi hj, hu])
      rw [Nat.zero_add]
      exact ⟨hc 0 _ (by omega) rfl, hc 1 _ (by omega) rfl, hc 2 _ (by omega) rfl, hc 3 _ (by omega) rfl, hc 4 _ (by omega) rfl, hc 5 _ (by omega) rfl⟩

/-- From a row of the call's own, put into the box. -/
theorem OutAt.of_owns {TB N0 base : Nat} {l : List Pk} {w : World} {v : Value} (ho : w.ownsRow base 36 6 v l.length (Ps l)) (hb : N0 ≤ base) (hT : TB < N0) (hl : 0 < l.length) (hx : ∃ u, w.heap[TB]? = some (.cells #[u] 22 (0, 0))) :
    OutAt TB N0 l (w.setCell ⟨TB, 0, none⟩ v) := by
  obtain ⟨u, hx⟩ := hx
  refine ⟨v, by simp [World.setCell, Array.getElem?_modify, hx], ?_⟩
  rcases ho.2 with ⟨rfl, h0⟩ | ⟨g, cap, cur, rfl, hbg, hg, hc, hm, hs, ht⟩
  · omega
  · refine .inr ⟨g, cap, cur, rfl, hc, by omega, (heap_setCell_ne w TB g _ (by omega)).trans hg, fun i u hu => ?_⟩
    have hi : i < l.length * 6 := by
      rcases Nat.lt_or_ge i (l.length * 6) with h | h
      · exact h
      · rw [List.getElem?_eq_none (by rw [ps_len]; exact h)] at hu; cases hu
    rw [← ht, List.getElem?_take, if_pos hi] at hu
    rw [← Array.getElem?_toList]; exact hu

theorem pickP_in (x : List UInt8) : PkIn (pickP x) := by
  have z : In64 0 := by constructor <;> omega
  unfold pickP
  split
  · exact ⟨by simp, by simp, numAt_in x 0, z, z, z, z⟩
  · split
    · exact ⟨by simp, by simp, numAt_in x 0, numAt_in x 1, numAt_in x 2, numAt_in x 3, z⟩
    · split
      · exact ⟨by simp, by simp, numAt_in x 0, numAt_in x 1, numAt_in x 3, numAt_in x 4, numAt_in x 2⟩
      · exact ⟨by simp, by simp, z, z, z, z, z⟩

theorem below_deferred {w W : World} {D N : Nat} (hb : Below N w W) (hD : N ≤ D) : Below N w (W.putObj D (.deferred none)) :=
  ⟨hb.os, hb.tape, hb.output, by simpa using hb.size, fun k hk => (World.putObj_heap_other (by omega)).trans (hb.block k hk)⟩

theorem PkRow.putObj {W : World} {D : Nat} {a : Option Addr} {l : List Pk} (h : PkRow W a l) (hK : W.heap[D]? = some (.deferred (some []))) : PkRow (W.putObj D (.deferred none)) a l := by
  rcases h with rfl | ⟨b, off, rfl, hl, hc⟩
  · exact .inl rfl
  · refine .inr ⟨b, off, rfl, by simpa using hl, fun i p hi => ?_⟩
    have hbD : b ≠ D := by
      rintro rfl
      have := (hc i p hi).1
      simp [World.cell?, hK] at this
    have e : ∀ o, (W.putObj D (.deferred none)).cell? ⟨b, o, none⟩ = W.cell? ⟨b, o, none⟩ := fun o => World.cell?_of_block (World.putObj_heap_other hbD)
    obtain ⟨h0, h1, h2, h3, h4, h5⟩ := hc i p hi
    exact ⟨(e _).trans h0, (e _).trans h1, (e _).trans h2, (e _).trans h3, (e _).trans h4, (e _).trans h5⟩

theorem enters31 (args : Array Value) (w : World) : (callFunc 31 args).run Tryd.prog w = .ok (.enter 31 args) w := enters_of Tryd.func31 (by kernel_rfl) rfl args w

set_option maxRecDepth 100000 in
set_option maxHeartbeats 2000000 in
theorem wparse_t (s : List UInt8) (w : World) (hm : Mem w) (hs : s ≠ [45]) (hl : s.length ≤ 2000) :
    Calls Tryd.prog 6 #[.string (bs s)] w fun e w' => ParseOut (parseP s) e w' ∧ Below w.heap.size w w' := by
  obtain ⟨i0, hi0, hz0, hz1, hz2⟩ := info_parts info36
  have hT : (bs s).toList = s := by rw [ByteArray.toList_eq]; rfl
  have q0 : (s == [45]) = false := by simpa using hs
  have hrw : rawP s = (parts 32 s).map pickP := by rw [rawP, if_neg hs]
  have Hseq := Lib.hid (splitseq_any s (w.alloc (.cells #[.slice none 0 0] 22)))
  have Hbox := Lib.hid (boxes_new s (w.alloc (.cells #[.slice none 0 0] 22)))
  rw [sz] at Hseq Hbox
  obtain ⟨W0, hW0⟩ : ∃ W0, W0 = (((w.alloc (.cells #[.slice none 0 0] 22)).alloc (.cells #[.string (bs s)] 9)).alloc (.cells #[.string (bs [32])] 9)).alloc (.cells #[.int .i64 0] 3) := ⟨_, rfl⟩
  have hW0s : W0.heap.size = w.heap.size + 4 := by rw [hW0, sz, sz, sz, sz]
  have HW0b := Lib.hid (show Below w.heap.size w W0 by
    rw [hW0]
    exact ((((Below.refl _ w).alloc (Nat.le_refl _) _).alloc (by rw [sz]; omega) _).alloc (by rw [sz, sz]; omega) _).alloc (by rw [sz, sz, sz]; omega) _)
  have HT0 := Lib.hid (show W0.heap[w.heap.size]? = some (.cells #[.slice none 0 0] 22 (0, 0)) by
    rw [hW0]
    exact (Below.heap_alloc _ _ _ (by rw [sz, sz, sz]; omega)).trans ((Below.heap_alloc _ _ _ (by rw [sz, sz]; omega)).trans ((Below.heap_alloc _ _ _ (by rw [sz]; omega)).trans (heap_alloc_new _ _))))
  rw [← hW0] at Hseq Hbox
  have HWe := Lib.hid hW0
  have HW0s := Lib.hid hW0s
  clear hW0 hs hW0s
  refine (callsIn_wide (n := 5)).1 ?_
  refine callsIn_of_wp_marks Tryd.func6 rfl trivial ?_ rfl
  simp only [Tryd.ntmps6, List.size_toArray, List.length_cons, List.length_nil, Nat.reduceAdd, Nat.reduceSub, Array.replicate_succ, Array.replicate_zero, List.push_toArray, List.append_toArray, List.nil_append, List.cons_append]
  gi_wp2_with (refine ⟨trivial, ?_⟩; gi_at_call 13; refine (callsIn_wide.2 Hseq.out).mono ?_; rintro e w' ⟨rfl, rfl⟩)
  · refine range_feeds (α := List UInt8) (gf := 31) (lb := #[.pointer (some ⟨w.heap.size + 1 + 1, 0, none⟩), .pointer (some ⟨w.heap.size + 1, 0, none⟩), .pointer (some ⟨w.heap.size + 1 + 2, 0, none⟩)]) (enc := fun x => .string (bs x))
      (Kp := KeepBoxes (w.heap.size + 1)) (S := parts 32 s) (N := w.heap.size + 1) rfl enters31 rfl (by rw [HW0s.out]; omega) (seq_feeds s (w.heap.size + 1) w' (by omega) (by rw [HW0s.out]; omega) Hbox.out)
      (fun h k b h1 h2 => (k b h1 h2).trans (h b h1 h2)) (fun W l o o' hl _ _ _ b h1 h2 => World.putObj_heap_other (by rw [HW0s.out] at hl; omega))
      (fun pre W => OutAt w.heap.size (w.heap.size + 4) (pre.map pickP) W ∧ Below w.heap.size w W ∧ w.heap.size + 4 ≤ W.heap.size) ?own ?set ⟨⟨_, HT0.out, .inl ⟨rfl, rfl⟩⟩, HW0b.out, by rw [HW0s.out]; omega⟩
      (fun x => { tmps := #[.string (bs s), undef, .slice none 0 0, .int .i64 0, .pointer (some ⟨w.heap.size, 0, none⟩), .string (bs x), undef, undef, .string (bs s), .bool true, .string (bs s),
        .func (.func 31) #[] #[.pointer (some ⟨w.heap.size + 1 + 1, 0, none⟩), .pointer (some ⟨w.heap.size + 1, 0, none⟩), .pointer (some ⟨w.heap.size + 1 + 2, 0, none⟩)], .string (bs x),
        undef, undef, undef, undef, undef, undef, undef, undef, undef, undef, undef, undef, undef, undef, undef, undef, undef, undef, undef, undef, undef, undef, undef], defers := [] }) ?assign ?body ?done
    case own =>
      intro pre W W' row h hg hr
      refine ⟨h.1.kept (fun k o hk _ ho => (hg.block k (Array.getElem?_eq_some_iff.1 hk).1 (fun e => ?_)).trans hk), h.2.1.grown hg h.2.1.size (fun k e => by have := (hr k e).1; rw [HW0s.out] at this; omega), Nat.le_trans h.2.2 hg.size⟩
      obtain ⟨_, o', ho', hc⟩ := hr k e.symm
      rw [hk] at ho'; cases ho'; rw [ho] at hc; cases hc
    case set =>
      intro pre W v h
      exact ⟨h.1.kept (fun k o hk hk2 _ => (heap_setCell_ne W _ k v (by omega)).trans hk), h.2.1.setCell (by show w.heap.size ≤ w.heap.size + 1; omega) _, Nat.le_trans h.2.2 (KeepsOthers.setCell _ _ _).size⟩
    case assign =>
      intro l x W K hK
      gi_wp2
      exact hK
    case body =>
      rintro l pre x W ⟨hout, hB, hW4⟩ hpre
      obtain ⟨ao, cap, hbx, hcap, hnone, hcells, hrow⟩ := hout.slice
      have hTl : w.heap.size < W.heap.size := (Array.getElem?_eq_some_iff.1 hbx).1
      have hS0 : Below W.heap.size W W.drew := (Below.refl _ W).drew
      have hld : ∀ w2, Below W.heap.size W w2 → w2.cell? ⟨w.heap.size, 0, none⟩ = some (.slice ao (pre.map pickP).length cap) := fun w2 h => by
        rw [h.cell (p := ⟨w.heap.size, 0, none⟩) hTl, blk_cell hbx]; rfl
      obtain ⟨n, hn⟩ : ∃ n, n = (pre.map pickP).length := ⟨_, rfl⟩
      rw [← hn] at hld hcap hnone hbx
      have Hn := Lib.hid hn
      clear hn
      have n0 : (0 : Int) ≤ (n : Int) := by omega
      have n1 : (n : Int) ≤ (cap : Int) := by omega
      gi_wp2
      refine region_in_D (fun w' => Below W.heap.size W w') 10 (by kernel_rfl) (by kernel_rfl) (by rintro ⟨a, w, h⟩; exact h) ?_
      refine anyD_take (i := 6) (v := .string (bs x)) rfl (by kernel_rfl) (by kernel_rfl) (by kernel_rfl) (by kernel_rfl) (fun _ _ _ h => h) (Or.inl ⟨by rfl, ?_⟩) hS0 ?_
      · intro w2 _; go_simp
      try go_frame
      refine anyD_take (i := 0) (v := .slice ao n cap) rfl (by kernel_rfl) (by kernel_rfl) (by kernel_rfl) (by kernel_rfl) (fun _ _ _ h => h) (Or.inl ⟨by rfl, ?_⟩) hS0 ?_
      · intro w2 h2; have := hld w2 h2; go_simp
      try go_frame
      refine anyD_take (i := 1) (v := .slice ao n cap) rfl (by kernel_rfl) (by kernel_rfl) (by kernel_rfl) (by kernel_rfl) (fun _ _ _ h => h) (Or.inl ⟨by rfl, ?_⟩) hS0 ?_
      · intro w2 h2; have := hld w2 h2; go_simp
      try go_frame
      refine anyD_take (i := 3) (v := .slice ao n cap) rfl (by kernel_rfl) (by kernel_rfl) (by kernel_rfl) (by kernel_rfl) (fun _ _ _ h => h) (Or.inl ⟨by rfl, ?_⟩) hS0 ?_
      · intro w2 h2; have := hld w2 h2; go_simp
      try go_frame
      refine anyD_take (i := 2) (v := .int .i64 n) rfl (by kernel_rfl) (by kernel_rfl) (by kernel_rfl) (by kernel_rfl) (fun _ _ _ h => h) (Or.inl ⟨by rfl, ?_⟩) hS0 ?_
      · intro w2 _; go_simp
      try go_frame
      refine anyD_take (i := 4) (v := .int .i64 n) rfl (by kernel_rfl) (by kernel_rfl) (by kernel_rfl) (by kernel_rfl) (fun _ _ _ h => h) (Or.inl ⟨by rfl, ?_⟩) hS0 ?_
      · intro w2 _; go_simp
      try go_frame
      refine anyD_take (i := 5) (v := .slice ao n n) rfl (by kernel_rfl) (by kernel_rfl) (by kernel_rfl) (by kernel_rfl) (fun _ _ _ h => h) (Or.inl ⟨by rfl, ?_⟩) hS0 ?_
      · intro w2 _; go_simp
      try go_frame
      have hpl : x.length ≤ 2000 := by
        obtain ⟨t, ht⟩ := hpre
        have := parts_len 32 s x (by rw [← ht]; simp)
        omega
      have hmW : Mem W.drew := (hm.below hB hm.size).below (B := W.heap.size) hS0 (by have := hB.size; have := hm.size; omega)
      refine anyD_one (i := 7) (by kernel_rfl) rfl (fun K hK => ?_)
      go_simp
      go_at_call 14
      refine (wpick_any x W.drew hmW (by omega)).mono ?_
      rintro e w3 ⟨rfl, hb3⟩
      have hb3' : Below W.heap.size W w3 := hS0.trans hb3
      refine hK _ _ (fun _ => hb3') (fun _ => ?_)
      try go_frame
      clear hK K
      refine anyD_one (i := 8) (by kernel_rfl) rfl (fun K hK => ?_)
      go_simp
      have hb4 : Below W.heap.size W (w3.alloc (.cells (pkCells (pickP x)) 36)) := hb3'.alloc hb3'.size _
      refine hK _ _ (fun _ => hb4) (fun _ => ?_)
      try go_frame
      clear hK K
      have hpn : pre.length + 1 ≤ 2001 := by
        obtain ⟨t, ht⟩ := hpre
        have h1 := parts_length 32 s
        have h2 : (pre ++ [x] ++ t).length = (parts 32 s).length := by rw [ht]
        simp at h2; omega
      have hnl : n ≤ 2000 := by rw [Hn.out, List.length_map]; omega
      refine anyD_one (i := 9) (by kernel_rfl) rfl (fun K hK => ?_)
      refine step_append_grows rfl _ _ 22 rfl 36 i0 (.agg (pkCells ⟨0, 0, 0, 0, 0, 0⟩)) 6 48 Tryd.underlying22 hi0 hz0 hz1 hz2 rfl (by decide) ao n n (Ps (pre.map pickP)) rfl (fun h => ⟨(hnone h).1, (hnone h).1⟩) (by rw [ps_len, Hn.out])
        (fun b hb j u hu => ?holds) ⟨w3.heap.size, 0, none⟩ 1 1 (pkCells (pickP x)).toList rfl rfl (World.news_of_block (heap_alloc_new _ _)) (by intro u hu; simp at hu; rcases hu with h | h | h | h | h | h <;> (subst h; rfl)) (by omega) (by unfold maxLen; omega) (by omega) ?app
      case holds =>
        have hc := hcells b hb j u hu
        exact (hb4.cell (World.block_lt_of_cell? _ _ hc)).trans hc
      case app =>
      intro v' w5 hown hgrow
      have hb5 : Below W.heap.size W w5 := hb4.grown hgrow hb4.size (fun k e => by cases e)
      refine hK _ _ (fun _ => hb5) (fun _ => ?_)
      try go_frame
      clear hK K
      have hx5 := (hb5.block _ hTl).trans hbx
      have hc5 := blk_cell hx5 0
      have hf5 := blk_free hx5 0
      simp only [List.getElem?_toArray, List.getElem?_cons_zero] at hc5
      obtain ⟨a5, cap5, rfl⟩ := owns_slice hown
      have Hown := Lib.hid hown
      clear hown
      refine anyD_one (i := 10) (by kernel_rfl) rfl (fun K hK => ?_)
      go_simp
      refine hK _ _ (fun h => absurd rfl h) (fun _ => ?_)
      clear hK K
      refine anyD_done (by kernel_rfl) ?_ _
      have hk5 : KeepsOthers W w5 := ⟨hb5.size, fun k o hk _ => (hb5.block k (Array.getElem?_eq_some_iff.1 hk).1).trans hk⟩
      refine ⟨hk5.trans (KeepsOthers.setCell _ _ _), fun b h1 h2 => (heap_setCell_ne w5 _ b _ (by omega)).trans (hb5.block b (by omega)), ?_, ?_, ?_⟩
      · have e : (pre ++ [x]).map pickP = pre.map pickP ++ [pickP x] := by simp
        have ho := Hown.out
        rw [e]
        refine OutAt.of_owns (base := (w3.alloc (.cells (pkCells (pickP x)) 36)).heap.size) ?_ (Nat.le_trans hW4 hb4.size) (by omega) (by simp) ⟨_, hx5⟩
        rw [ps_snoc, List.length_append, ← Hn.out]
        exact ho
      · exact (hB.trans (hb5.mono hB.size)).setCell (Nat.le_refl _) _
      · exact Nat.le_trans hW4 (Nat.le_trans hb5.size (KeepsOthers.setCell _ _ _).size)
    case done =>
      rintro D W hD ⟨hout, hB, hW4⟩ hK
      rw [← hrw] at hout
      obtain ⟨ao, cap, hbx, hcap, hnone, hcells, hrow⟩ := hout.slice
      have hc := blk_cell hbx 0
      simp only [List.getElem?_toArray, List.getElem?_cons_zero] at hc
      have hin : ∀ p ∈ rawP s, PkIn p := by
        intro p hp; rw [hrw] at hp
        obtain ⟨x, _, rfl⟩ := List.mem_map.1 hp
        exact pickP_in x
      have hll : (rawP s).length ≤ 3000 := by rw [hrw, List.length_map]; have := parts_length 32 s; omega
      obtain ⟨l, hl2⟩ : ∃ l, l = rawP s := ⟨_, rfl⟩
      rw [← hl2] at hcap hrow hin hll hc hbx
      have Hl := Lib.hid hl2
      have HT := Lib.hid (wtext_any ao l cap W (hm.below hB hm.size) hrow hin hll hcap)
      have hDw : w.heap.size ≤ D := by rw [HW0s.out] at hD; omega
      have hTl : w.heap.size < W.heap.size := (Array.getElem?_eq_some_iff.1 hbx).1
      have hDl : D < W.heap.size := (Array.getElem?_eq_some_iff.1 hK).1
      have HPn := Lib.hid (show ∀ w : World, parseP s = none → ParseOut (parseP s) (.returned (.tuple #[.slice none 0 0, .int .i64 240])) w from fun w h => by rw [h]; rfl)
      clear hl2 hin hcells hnone hrw hbx hout
      cases ht : textL l with
      | none =>
        have hto : textOut l 2 = .tuple #[.string (bs []), .int .i64 2] := by unfold textOut; rw [ht]
        have Hno := Lib.hid (HPn.out · (show parseP s = none by rw [parseP, ← Hl.out, ht]; simp))
        rw [hto] at HT
        clear ht hto
        gi_wp2_with (refine ⟨trivial, ?_⟩; gi_at_call 4; refine (callsIn_wide.2 HT.out).mono ?_; rintro e w2 ⟨rfl, hb2⟩)
        have hK2 := (hb2.block D hDl).trans hK
        refine ⟨by simp, .inl ⟨_, _, rfl, run_takeDeferred hK2, ?_⟩⟩
        refine ⟨_, results_tmp2 rfl _ _ _, ?_, below_deferred (hB.trans (hb2.mono hB.size)) hDw⟩
        exact Hno.out _
      | some t =>
        have hto : textOut l 2 = .tuple #[.string (bs t), .int .i64 0] := by unfold textOut; rw [ht]
        rw [hto] at HT
        have hTt : (bs t).toList = t := by rw [ByteArray.toList_eq]; rfl
        by_cases hts : t = s
        · have Hyes := Lib.hid (show parseP s = some l by rw [parseP, ← Hl.out, ht, if_pos (by rw [hts])])
          have q1 : (t == s) = true := by rw [hts]; simp
          have Hrow := Lib.hid hrow
          have hcapI : (l.length : Int) ≤ (cap : Int) := by omega
          have hbcell : ∀ w2, Below W.heap.size W w2 → w2.cell? ⟨w.heap.size, 0, none⟩ = some (.slice ao l.length cap) := fun w2 h => (h.cell (p := ⟨w.heap.size, 0, none⟩) hTl).trans hc
          clear ht hto hrow hts
          gi_wp2_with (refine ⟨trivial, ?_⟩; gi_at_call 4; refine (callsIn_wide.2 HT.out).mono ?_; rintro e w2 ⟨rfl, hb2⟩; have hc2 := hbcell w2 hb2)
          have hK2 := (hb2.block D hDl).trans hK
          refine ⟨by simp, .inl ⟨_, _, rfl, run_takeDeferred hK2, ?_⟩⟩
          refine ⟨_, results_tmp2 rfl _ _ _, ?_, below_deferred (hB.trans (hb2.mono hB.size)) hDw⟩
          rw [Hyes.out]
          exact ⟨ao, cap, rfl, hcap, (Hrow.out.below hb2).putObj hK2⟩
        · have Hno := Lib.hid (HPn.out · (show parseP s = none by rw [parseP, ← Hl.out, ht, if_neg (by simpa using hts)]))
          have q1 : (t == s) = false := by simpa using hts
          clear ht hto hts
          gi_wp2_with (refine ⟨trivial, ?_⟩; gi_at_call 4; refine (callsIn_wide.2 HT.out).mono ?_; rintro e w2 ⟨rfl, hb2⟩)
          have hK2 := (hb2.block D hDl).trans hK
          refine ⟨by simp, .inl ⟨_, _, rfl, run_takeDeferred hK2, ?_⟩⟩
          refine ⟨_, results_tmp2 rfl _ _ _, ?_, below_deferred (hB.trans (hb2.mono hB.size)) hDw⟩
          exact Hno.out _

set_option maxRecDepth 100000 in
set_option maxHeartbeats 1000000 in
theorem wparse_dash (w : World) :
    Calls Tryd.prog 6 #[.string (bs [45])] w fun e w' => ParseOut (parseP [45]) e w' ∧ Below w.heap.size w w' := by
  have hT : (bs [45]).toList = [45] := by rw [ByteArray.toList_eq]; rfl
  have hb0 : Below w.heap.size w (w.alloc (.cells #[.slice none 0 0] 22)) := (Below.refl _ w).alloc (Nat.le_refl _) _
  have HT := Lib.hid (wtext_nil none 0 (w.alloc (.cells #[.slice none 0 0] 22)))
  have hto : textOut [] 2 = .tuple #[.string (bs [45]), .int .i64 0] := rfl
  rw [hto] at HT
  have HO := Lib.hid (show ∀ w : World, ParseOut (parseP [45]) (.returned (.tuple #[.slice none 0 0, .int .i64 0])) w from fun w => by
    have : parseP [45] = some [] := by simp [parseP, rawP, textL]
    rw [this]; exact ⟨none, 0, rfl, Nat.le_refl _, .inl rfl⟩)
  have hcell : ∀ w2, Below (w.alloc (.cells #[.slice none 0 0] 22)).heap.size (w.alloc (.cells #[.slice none 0 0] 22)) w2 → w2.cell? ⟨w.heap.size, 0, none⟩ = some (.slice none 0 0) := fun w2 h =>
    (h.cell (p := ⟨w.heap.size, 0, none⟩) (by rw [sz]; show w.heap.size < _; omega)).trans (cell_new_l w (.slice none 0 0) 22).1
  clear hto
  go_enter Tryd.func6, Tryd.ntmps6
  go_wp2_with (go_at_call 4; go_fit HT.out; rintro e w2 ⟨rfl, hb2⟩; have hc2 := hcell w2 hb2)
  go_ret2
  exact ⟨HO.out _, hb0.trans (hb2.mono (by rw [sz]; omega))⟩

/-- THE PROGRAM's READING OF A SCHEDULE. -/
theorem wparse_any (s : List UInt8) (w : World) (hm : Mem w) (hl : s.length ≤ 2000) :
    Calls Tryd.prog 6 #[.string (bs s)] w fun e w' => ParseOut (parseP s) e w' ∧ Below w.heap.size w w' := by
  by_cases h : s = [45]
  · subst h; exact wparse_dash w
  · exact wparse_t s w hm h hl
end Go.Proofs.YtlohcmnckfndlaaDoor
