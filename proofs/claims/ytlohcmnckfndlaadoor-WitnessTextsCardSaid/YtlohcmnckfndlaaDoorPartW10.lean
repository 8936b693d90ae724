/-
  A part of the proof of WitnessTexts: contracts of functions that the law reaches.
-/
import Derived.Test.YtlohcmnckfndlaaDoorPartW9
import Derived.StillTailTactics
import Derived.Laws.ResultCell
namespace Go.Proofs.YtlohcmnckfndlaaDoor
open Go Go.RowKit

theorem info3 : (Tryd.prog.info? 3).map (fun i => (i.zero, i.size, i.bytes)) = some (some (.int .i64 0), 1, 8) := by kernel_rfl

theorem parts_len (c : UInt8) : ∀ s, ∀ x ∈ parts c s, x.length ≤ s.length := by
  intro s
  induction s with
  | nil => intro x hx; simp [parts] at hx; simp [hx]
  | cons b r ih =>
    intro x hx
    rw [parts] at hx
    split at hx
    · rcases List.mem_cons.1 hx with h | h
      · simp [h]
      · have := ih x h; simp; omega
    · split at hx
      · simp at hx; subst hx; simp
      · rename_i y ys e
        rcases List.mem_cons.1 hx with h | h
        · subst h
          have := ih y (by rw [e]; simp)
          simp; omega
        · have := ih x (by rw [e]; simp [h])
          simp; omega

theorem num_some {l : List UInt8} {v : Int} (h : numR l = some v) (w : World) (hl : l.length ≤ 100000) :
    Calls Tryd.prog 26 #[.string (bs l)] w fun e w' => e = .returned (.tuple #[.int .i64 v, .bool true]) ∧ Below w.heap.size w w' := by
  refine (num_any l w hl).mono ?_
  rintro e w' ⟨⟨v', b, rfl, hv⟩, hb⟩
  cases b with
  | false => rw [h] at hv; simp at hv
  | true => rw [h] at hv; simp at hv; subst hv; exact ⟨rfl, hb⟩
theorem num_none {l : List UInt8} (h : numR l = none) (w : World) (hl : l.length ≤ 100000) :
    Calls Tryd.prog 26 #[.string (bs l)] w fun e w' => ∃ v, e = .returned (.tuple #[.int .i64 v, .bool false]) ∧ Below w.heap.size w w' := by
  refine (num_any l w hl).mono ?_
  rintro e w' ⟨⟨v', b, rfl, hv⟩, hb⟩
  cases b with
  | true => rw [h] at hv; simp at hv
  | false => exact ⟨v', rfl, hb⟩

theorem numsR_snoc : ∀ {l : List (List UInt8)} {ns : List Int} {x : List UInt8} {v : Int}, numsR l = some ns → numR x = some v → numsR (l ++ [x]) = some (ns ++ [v])
  | [], ns, x, v, h, hx => by simp [numsR] at h; subst h; simp [numsR, hx]
  | y :: r, ns, x, v, h, hx => by
    simp only [numsR] at h
    split at h
    · cases h
    · rename_i a ha
      split at h
      · cases h
      · rename_i m hm
        simp at h; subst h
        simp only [List.cons_append, numsR, ha, numsR_snoc hm hx]
theorem numsR_no : ∀ {l : List (List UInt8)} {x : List UInt8}, x ∈ l → numR x = none → numsR l = none
  | y :: r, x, h, hx => by
    rcases List.mem_cons.1 h with rfl | h
    · simp [numsR, hx]
    · simp only [numsR, numsR_no h hx]; split <;> rfl

/-- What a pick's text comes to. -/
def PickOut (l : List UInt8) (e : Ending) : Prop := ∃ p b, e = .returned (.tuple #[.agg (pkCells p), .bool b]) ∧ (if b then pickR l = some p else pickR l = none)














/-- Strings in a row from its head. -/
def StrRow (w : World) (g : Nat) (l : List (List UInt8)) : Prop := g < w.heap.size ∧ ∀ i x, l[i]? = some x → w.cell? ⟨g, i, none⟩ = some (.string (bs x))
theorem StrRow.below {w w' : World} {B g : Nat} {l : List (List UInt8)} (hb : Below B w w') (hg : g < B) (h : StrRow w g l) : StrRow w' g l :=
  ⟨Nat.lt_of_lt_of_le h.1 hb.size, fun i x hi => (hb.cell (p := ⟨g, _, none⟩) hg).trans (h.2 i x hi)⟩

theorem owns_cells {w : World} {base : Nat} {e : TypeId} {v : Value} {n : Nat} {xs : List Value} (h : w.ownsRow base e 1 v n xs) (hn : 0 < n) :
    ∃ g cap, v = .slice (some ⟨g, 0, none⟩) n cap ∧ n ≤ cap ∧ base ≤ g ∧ g < w.heap.size ∧ ∀ (i : Nat) x, xs[i]? = some x → w.cell? ⟨g, i, none⟩ = some x := by
  rcases h.2 with ⟨rfl, h0⟩ | ⟨g, cap, cur, rfl, hb, hg, hc, hm, hs, ht⟩
  · omega
  · refine ⟨g, cap, rfl, hc, hb, ?_, fun i x hi => ?_⟩
    · rcases Nat.lt_or_ge g w.heap.size with h | h
      · exact h
      · rw [Array.getElem?_eq_none h] at hg; cases hg
    · have hlt : i < xs.length := by
        rcases Nat.lt_or_ge i xs.length with h | h
        · exact h
        · rw [List.getElem?_eq_none h] at hi; cases hi
      rw [h.1] at hlt
      rw [blk_cell hg, ← Array.getElem?_toList]
      rw [← ht, List.getElem?_take, if_pos hlt] at hi
      exact hi

theorem split_row (c : UInt8) (s : List UInt8) (w : World) (hl : s.length ≤ 100000) :
    Calls Tryd.prog 15 #[.string (bs s), .int .u8 c.toNat] w fun e w' => ∃ g cap, e = .returned (.slice (some ⟨g, 0, none⟩) (parts c s).length cap) ∧ (parts c s).length ≤ cap ∧ w.heap.size ≤ g ∧ StrRow w' g (parts c s) ∧ Below w.heap.size w w' := by
  refine (split_any c s w hl).mono ?_
  rintro e w' ⟨v, rfl, ho, hb⟩
  obtain ⟨g, cap, rfl, h1, h2, h3, h4⟩ := owns_cells ho (List.length_pos_iff.2 (parts_ne c s))
  refine ⟨g, cap, rfl, h1, h2, ⟨h3, fun i x hi => h4 i _ (by simp [Ss, hi])⟩, hb⟩

theorem PkAt.belowAt {B N : Nat} {p : Pk} {w w' : World} (h : PkAt B p w) (hb : Below N w w') (hl : B < N) : PkAt B p w' :=
  ⟨(hb.cell (p := ⟨B, 0, none⟩) hl).trans h.1, (hb.cell (p := ⟨B, 1, none⟩) hl).trans h.2.1, (hb.cell (p := ⟨B, 2, none⟩) hl).trans h.2.2.1,
   (hb.cell (p := ⟨B, 3, none⟩) hl).trans h.2.2.2.1, (hb.cell (p := ⟨B, 4, none⟩) hl).trans h.2.2.2.2.1, (hb.cell (p := ⟨B, 5, none⟩) hl).trans h.2.2.2.2.2⟩

/-- The pick's box is not frozen. -/
abbrev PkFree (B : Nat) (w : World) : Prop :=
  w.frozen? ⟨B, 0, none⟩ = false ∧ w.frozen? ⟨B, 1, none⟩ = false ∧ w.frozen? ⟨B, 2, none⟩ = false ∧ w.frozen? ⟨B, 3, none⟩ = false ∧ w.frozen? ⟨B, 4, none⟩ = false ∧ w.frozen? ⟨B, 5, none⟩ = false
theorem PkFree.belowAt {B N : Nat} {w w' : World} (h : PkFree B w) (hb : Below N w w') (hl : B < N) : PkFree B w' :=
  ⟨(hb.frozen (p := ⟨B, 0, none⟩) hl).trans h.1, (hb.frozen (p := ⟨B, 1, none⟩) hl).trans h.2.1, (hb.frozen (p := ⟨B, 2, none⟩) hl).trans h.2.2.1,
   (hb.frozen (p := ⟨B, 3, none⟩) hl).trans h.2.2.2.1, (hb.frozen (p := ⟨B, 4, none⟩) hl).trans h.2.2.2.2.1, (hb.frozen (p := ⟨B, 5, none⟩) hl).trans h.2.2.2.2.2⟩
theorem blk_free {W : World} {b : Nat} {cs : Array Value} {t : TypeId} (h : W.heap[b]? = some (.cells cs t (0, 0))) (i : Nat) : W.frozen? ⟨b, i, none⟩ = false := by simp [World.frozen?, h]
theorem PkFree.new (w : World) (p : Pk) (t : TypeId) : PkFree w.heap.size (w.alloc (.cells (pkCells p) t)) :=
  have h : (w.alloc (.cells (pkCells p) t)).heap[w.heap.size]? = some (.cells (pkCells p) t (0, 0)) := heap_alloc_new w _
  ⟨blk_free h 0, blk_free h 1, blk_free h 2, blk_free h 3, blk_free h 4, blk_free h 5⟩

theorem load_pk {B : Nat} {p : Pk} {w : World} (h : PkAt B p w) : (loadVar 36 ⟨B, 0, none⟩).run Tryd.prog w = .ok (.agg (pkCells p)) w := by
  obtain ⟨c0, c1, c2, c3, c4, c5⟩ := h
  go_simp
theorem pk_ret {R : Ending → World → Prop} {a : Act} {w : World} {B : Nat} {p : Pk} {fn : Func} (hf : fn.results = #[.cell 2 36, .tmp 3]) (hp : a.tmps.getD 2 undef = .pointer (some ⟨B, 0, none⟩)) (hat : PkAt B p w) (hd : a.defers = [])
    (hR : R (.returned (.tuple #[.agg (pkCells p), a.tmps.getD 3 undef])) w) : bodyPost Tryd.prog fn R .ret a w := by
  refine bodyPost_ret ?_ hd hR
  rw [results_cell_tmp hf, hp]
  simp [asAddr, load_pk hat]
theorem pk_ret1 {R : Ending → World → Prop} {a : Act} {w : World} {B : Nat} {p : Pk} {fn : Func} (hf : fn.results = #[.cell 2 36]) (hp : a.tmps.getD 2 undef = .pointer (some ⟨B, 0, none⟩)) (hat : PkAt B p w) (hd : a.defers = [])
    (hR : R (.returned (.agg (pkCells p))) w) : bodyPost Tryd.prog fn R .ret a w := by
  refine bodyPost_ret ?_ hd hR
  have hp' : a.tmps[2]?.getD undef = .pointer (some ⟨B, 0, none⟩) := by simpa using hp
  simp [results, hf, hp', asAddr, load_pk hat]

/-- A pick written into its box. -/
abbrev six (B : Nat) (p : Pk) (w : World) : World :=
  (((((w.setCell ⟨B, 0, none⟩ (.int .u8 p.kind)).setCell ⟨B, 1, none⟩ (.int .i64 p.rank)).setCell ⟨B, 2, none⟩ (.int .i64 p.call)).setCell ⟨B, 3, none⟩ (.int .i64 p.fr)).setCell ⟨B, 4, none⟩ (.int .i64 p.sq)).setCell ⟨B, 5, none⟩ (.int .i64 p.val)
theorem six_at {B : Nat} {p q : Pk} {w : World} (h : PkAt B q w) : PkAt B p (six B p w) := by
  obtain ⟨c0, c1, c2, c3, c4, c5⟩ := h
  refine ⟨?_, ?_, ?_, ?_, ?_, ?_⟩ <;> go_simp
theorem six_below {N B : Nat} {p : Pk} {W w : World} (hN : N ≤ B) (hb : Below N W w) : Below N W (six B p w) :=
  (((((hb.setCell hN _).setCell hN _).setCell hN _).setCell hN _).setCell hN _).setCell hN _

theorem pick_end {l : List UInt8} {w0 w : World} {a : Act} {B : Nat} {q p : Pk} {b : Bool} (hp : a.tmps.getD 2 undef = .pointer (some ⟨B, 0, none⟩)) (h3 : a.tmps.getD 3 undef = .bool b) (hd : a.defers = [])
    (hat : PkAt B q w) (hB : Below B w0 w) (hout : if b then pickR l = some p else pickR l = none) :
    bodyPost Tryd.prog Tryd.f16 (fun e w' => PickOut l e ∧ Below B w0 w') .ret a (six B p w) := by
  refine pk_ret (p := p) rfl hp (six_at hat) hd ?_
  rw [h3]
  exact ⟨⟨_, b, rfl, hout⟩, six_below (Nat.le_refl _) hB⟩

theorem pick_end_drew {l : List UInt8} {w0 w : World} {a : Act} {B : Nat} {q p : Pk} {b : Bool} (hp : a.tmps.getD 2 undef = .pointer (some ⟨B, 0, none⟩)) (h3 : a.tmps.getD 3 undef = .bool b) (hd : a.defers = [])
    (hat : PkAt B q w) (hB : Below B w0 w) (hout : if b then pickR l = some p else pickR l = none) :
    bodyPost Tryd.prog Tryd.f16 (fun e w' => PickOut l e ∧ Below B w0 w') .ret a (six B p w).drew := by
  have h : (six B p w).drew = six B p w.drew := by simp only [six, World.setCell_drew]
  rw [h]
  exact pick_end hp h3 hd hat hB.drew hout

theorem owns_slice {w : World} {base : Nat} {e : TypeId} {size : Nat} {v : Value} {n : Nat} {xs : List Value} (h : w.ownsRow base e size v n xs) : ∃ a cap, v = .slice a n cap := by
  rcases h.2 with ⟨rfl, rfl⟩ | ⟨g, cap, cur, rfl, _⟩
  · exact ⟨_, _, rfl⟩
  · exact ⟨_, _, rfl⟩

theorem take_tail {α : Type} {l : List α} {k : Nat} {x : α} (h : l[k + 1]? = some x) : l.tail.take (k + 1) = l.tail.take k ++ [x] := by
  rw [List.take_add_one, List.getElem?_tail, h]; rfl

theorem pickR_no {l : List UInt8} (h : numsR (parts 46 l).tail = none) : pickR l = none := by rw [pickR, h]
theorem pickR_fail {l : List UInt8} {ns : List Int} {hd : List UInt8} (h : numsR (parts 46 l).tail = some ns) (h0 : (parts 46 l)[0]? = some hd) (h1 : ¬ (hd = [103] ∧ ns.length = 1)) (h2 : ¬ (hd = [109] ∧ ns.length = 4)) (h3 : ¬ (hd = [97] ∧ ns.length = 5)) : pickR l = none := by
  rw [pickR, h]; simp only [h0, Option.some.injEq]; rw [if_neg h1, if_neg h2, if_neg h3]
theorem pickR_g {l : List UInt8} {ns : List Int} {a : Int} (h : numsR (parts 46 l).tail = some ns) (h0 : (parts 46 l)[0]? = some [103]) (hn : ns = [a]) : pickR l = some ⟨1, a, 0, 0, 0, 0⟩ := by
  subst hn; rw [pickR, h]; simp [h0]
theorem pickR_m {l : List UInt8} {ns : List Int} {a b c d : Int} (h : numsR (parts 46 l).tail = some ns) (h0 : (parts 46 l)[0]? = some [109]) (hn : ns = [a, b, c, d]) : pickR l = some ⟨2, a, b, c, d, 0⟩ := by
  subst hn; rw [pickR, h]; simp [h0]
theorem pickR_a {l : List UInt8} {ns : List Int} {a b c d e : Int} (h : numsR (parts 46 l).tail = some ns) (h0 : (parts 46 l)[0]? = some [97]) (hn : ns = [a, b, c, d, e]) : pickR l = some ⟨3, a, b, d, e, c⟩ := by
  subst hn; rw [pickR, h]; simp [h0]

theorem len1 {α : Type} {l : List α} (h : l.length = 1) : ∃ a, l = [a] := by match l, h with | [a], _ => exact ⟨a, rfl⟩
theorem len4 {α : Type} {l : List α} (h : l.length = 4) : ∃ a b c d, l = [a, b, c, d] := by match l, h with | [a, b, c, d], _ => exact ⟨a, b, c, d, rfl⟩
theorem len5 {α : Type} {l : List α} (h : l.length = 5) : ∃ a b c d e, l = [a, b, c, d, e] := by match l, h with | [a, b, c, d, e], _ => exact ⟨a, b, c, d, e, rfl⟩

set_option maxRecDepth 100000 in
set_option maxHeartbeats 1000000 in
theorem rpick_any (l : List UInt8) (w : World) (hl : l.length ≤ 90000) :
    Calls Tryd.prog 16 #[.string (bs l)] w fun e w' => PickOut l e ∧ Below w.heap.size w w' := by
  obtain ⟨i0, hi0, hz0, hz1, hz2⟩ := info_parts info3
  have HS := Lib.hid (split_row 46 l (w.alloc (.cells (pkCells ⟨0, 0, 0, 0, 0, 0⟩) 36)) (by omega))
  have Hb0 := Lib.hid (show Below w.heap.size w (w.alloc (.cells (pkCells ⟨0, 0, 0, 0, 0, 0⟩) 36)) from (Below.refl _ w).alloc (Nat.le_refl _) _)
  obtain ⟨hd, Hhd⟩ : ∃ hd, Hid ((parts 46 l)[0]? = some hd) := by
    cases h : parts 46 l with
    | nil => exact absurd h (parts_ne 46 l)
    | cons a b => exact ⟨a, rfl⟩
  have hP0 : 0 < (parts 46 l).length := List.length_pos_iff.2 (parts_ne 46 l)
  have hP1 : (parts 46 l).length ≤ 90001 := by have := parts_length 46 l; omega
  obtain ⟨ps, hps⟩ : ∃ ps, ps = parts 46 l := ⟨_, rfl⟩
  have Hps := Lib.hid hps
  rw [← hps] at HS Hhd hP0 hP1
  clear hps
  have Hat := Lib.hid (PkAt.new w ⟨0, 0, 0, 0, 0, 0⟩ 36)
  have Hfr := Lib.hid (PkFree.new w ⟨0, 0, 0, 0, 0, 0⟩ 36)
  have HBx := Lib.hid (show w.heap.size < (w.alloc (.cells (pkCells ⟨0, 0, 0, 0, 0, 0⟩) 36)).heap.size by rw [sz]; omega)
  obtain ⟨BX, hBX⟩ : ∃ BX, BX = w.heap.size := ⟨_, rfl⟩
  go_enter Tryd.func16, Tryd.ntmps16
  go_wp2_with (go_at_call 15; go_fit HS.out; rintro e w1 ⟨g, cap, rfl, hcap, hgb, hrow, hb1⟩)
  have HAt1 := Lib.hid (Hat.out.below hb1 HBx.out)
  have HFr1 := Lib.hid (Hfr.out.belowAt hb1 HBx.out)
  have HBx1 := Lib.hid (Nat.lt_of_lt_of_le HBx.out hb1.size)
  have HB1 := Lib.hid (Hb0.out.trans (hb1.mono Hb0.out.size))
  obtain ⟨B2, hB2⟩ : ∃ B2, B2 = w1.heap.size := ⟨_, rfl⟩
  have hgB2 : g < B2 := hB2 ▸ hrow.1
  have hBxB2 : w.heap.size < B2 := hB2 ▸ HBx1.out
  have HBle := Lib.hid (show ∀ wr, Below B2 w1 wr → B2 ≤ wr.heap.size from fun wr h => hB2 ▸ h.size)
  have Hrow := Lib.hid hrow
  clear hrow hgb hb1 hB2
  go_loopw [5, 6] (fun v i wr => ∃ (k : Nat) (ns : List Int), k < ps.length ∧ ns.length = k ∧ i = .int .i64 (k + 1) ∧ wr.ownsRow B2 3 1 v k (ns.map (Value.int .i64)) ∧ Below B2 w1 wr ∧ numsR (ps.tail.take k) = some ns) (fun _ i _ => ps.length - (intOf i).toNat)
  case atStart => exact ⟨0, [], by omega, rfl, rfl, World.ownsRow_nil _ _ _ _, Below.refl _ _, rfl⟩
  case round =>
    obtain ⟨k, ns, hk, hns, rfl, hown, hB, hnr⟩ := hrel
    have Hnr := Lib.hid hnr
    have hBs := HBle.out wr hB
    have HAt2 := Lib.hid (HAt1.out.belowAt hB hBxB2)
    have HFr2 := Lib.hid (HFr1.out.belowAt hB hBxB2)
    have HBx2 := Lib.hid (show w.heap.size < wr.heap.size by omega)
    have Hw := Lib.hid (HB1.out.trans (hB.mono (by omega)))
    clear hnr
    by_cases hlt : k + 1 < ps.length
    · have hi := List.getElem?_eq_getElem hlt
      obtain ⟨x, hx⟩ : ∃ x, x = ps[k + 1] := ⟨_, rfl⟩
      rw [← hx] at hi
      have hcell := (Hrow.out.below hB hgB2).2 (k + 1) x hi
      have hxl : x.length ≤ 100000 := by have := parts_len 46 l x (Hps.out ▸ List.mem_of_getElem? hi); omega
      have Htk := Lib.hid (take_tail hi)
      have k0 : (0 : Int) ≤ (k : Int) + 1 := by omega
      have k1 : (k : Int) + 1 < (ps.length : Int) := by omega
      clear hx
      cases hnum : numR x with
      | none =>
        have Hno := Lib.hid (pickR_no (l := l) (by rw [← Hps.out]; exact numsR_no (List.mem_of_getElem? (show ps.tail[k]? = some x by rw [List.getElem?_tail]; exact hi)) hnum))
        have Hc := Lib.hid (num_none hnum wr hxl)
        clear hnum hi
        go_wp2_with (go_at_call 26; go_fit Hc.out; rintro e w2 ⟨v, rfl, hb2⟩; have HB3 := Lib.hid (Hw.out.trans (hb2.mono (Nat.le_of_lt HBx2.out))); obtain ⟨z0, z1, z2, z3, z4, z5⟩ := HAt2.out.belowAt hb2 HBx2.out; obtain ⟨y0, y1, y2, y3, y4, y5⟩ := HFr2.out.belowAt hb2 HBx2.out; clear hb2)
        exact pick_end (p := ⟨0, 0, 0, 0, 0, 0⟩) (b := false) (q := ⟨0, 0, 0, 0, 0, 0⟩) rfl rfl rfl ⟨z0, z1, z2, z3, z4, z5⟩ HB3.out Hno.out
      | some v =>
        have Hc := Lib.hid (num_some hnum wr hxl)
        have Hnr2 : Hid (numsR (ps.tail.take (k + 1)) = some (ns ++ [v])) := by rw [Htk.out]; exact numsR_snoc Hnr.out hnum
        have Hk1 : Hid ((ns ++ [v]).length = k + 1) := Lib.hid (by simp [hns])
        clear hnum hi
        go_wp2_with (first
          | (go_at_call 26; go_fit Hc.out; rintro e w2 ⟨rfl, hb2⟩; have hown2 := owns_below hown hb2)
          | (at_builtin; refine wpList_append_own _ rfl _ _ 60 rfl B2 3 i0 (.int .i64 0) 1 8 Tryd.underlying60 hi0 hz0 hz1 hz2 rfl (by decide) _ _ _ rfl (hown2.alloc _) ⟨w2.heap.size, 0, none⟩ 1 1 [.int .i64 v] rfl rfl ?c1 ?c2 ?c3 ?c4 ?c5 ?_))
        case c1 =>
          intro j u hj
          match j, hj with
          | 0, hj => simp at hj; subst hj; simp [Addr.add]
        case c2 => intro u hu; simp at hu; subst hu; rfl
        case c3 => unfold maxLen; omega
        case c4 => omega
        case c5 => have := hb2.size; rw [sz]; omega
        · intro v' w3 hown' hgrow _
          have hs2 := hb2.size
          have Hown : Hid (w3.ownsRow B2 3 1 v' (k + 1) ((ns ++ [v]).map (Value.int .i64))) := by simpa [Hid] using hown'
          have HB4 : Hid (Below B2 w1 w3) := Lib.hid (((hB.trans (hb2.mono hBs)).alloc (by omega) _).grown hgrow (by rw [sz]; omega) (fun j hj => (hown2.lt j hj).1))
          clear hown' hgrow hown hown2 hb2
          go_wp2
          go_roundw
          case rel => exact ⟨k + 1, ns ++ [v], by omega, Hk1.out, by go_num, Hown.out, HB4.out, Hnr2.out⟩
          case measure => simp [intOf]; omega
    · have hkl : k + 1 = ps.length := by omega
      have HN := Lib.hid (show numsR (parts 46 l).tail = some ns by
        rw [← Hps.out]; have := Hnr.out; rw [List.take_of_length_le (by rw [List.length_tail]; omega)] at this; exact this)
      have hhd := (Hrow.out.below hB hgB2).2 0 hd Hhd.out
      have Hh := Lib.hid (show (parts 46 l)[0]? = some hd by rw [← Hps.out]; exact Hhd.out)
      obtain ⟨z0, z1, z2, z3, z4, z5⟩ := HAt2.out
      obtain ⟨y0, y1, y2, y3, y4, y5⟩ := HFr2.out
      have hT : (bs hd).toList = hd := by rw [ByteArray.toList_eq]; rfl
      have hltI : ¬ ((k : Int) + 1 < (ps.length : Int)) := by omega
      clear hkl hk
      by_cases h1 : hd = [103]
      · by_cases hn : k = 1
        · skip
          obtain ⟨a, hns2⟩ := len1 (hns.trans hn)
          have Hyes := Lib.hid (pickR_g HN.out (h1 ▸ Hh.out) hns2)
          obtain ⟨g2, cap2, rfl, hc2, hg2, hgl2, hcs⟩ := owns_cells hown (by omega)
          rw [hns2] at hcs
          have d0 := hcs 0 _ rfl
          clear hcs hown hns2
          subst h1 hn
          have hl2 : ¬ ((2 : Int) < (ps.length : Int)) := by omega
          clear hltI hlt
          go_wp2
          exact pick_end (p := ⟨1, a, 0, 0, 0, 0⟩) (b := true) (q := ⟨0, 0, 0, 0, 0, 0⟩) rfl rfl rfl ⟨z0, z1, z2, z3, z4, z5⟩ Hw.out Hyes.out
        · have hkb : ((k : Int) == 1) = false := by rw [beq_eq_false_iff_ne]; omega
          have Hno := Lib.hid (pickR_fail HN.out Hh.out (by rw [hns]; exact fun h => hn h.2) (by rw [h1]; simp) (by rw [h1]; simp))
          obtain ⟨a2, cap2, rfl⟩ := owns_slice hown
          subst h1
          go_wp2
          exact pick_end (p := ⟨0, 0, 0, 0, 0, 0⟩) (b := false) (q := ⟨0, 0, 0, 0, 0, 0⟩) rfl rfl rfl ⟨z0, z1, z2, z3, z4, z5⟩ Hw.out Hno.out
      · by_cases h2 : hd = [109]
        · by_cases hn : k = 4
          · have h1 := h2; clear h2
            obtain ⟨a, b, c, d, hns2⟩ := len4 (hns.trans hn)
            have Hyes := Lib.hid (pickR_m HN.out (h1 ▸ Hh.out) hns2)
            obtain ⟨g2, cap2, rfl, hc2, hg2, hgl2, hcs⟩ := owns_cells hown (by omega)
            rw [hns2] at hcs
            have d0 := hcs 0 _ rfl
            have d1 := hcs 1 _ rfl
            have d2 := hcs 2 _ rfl
            have d3 := hcs 3 _ rfl
            clear hcs hown hns2
            subst h1 hn
            have hl2 : ¬ ((5 : Int) < (ps.length : Int)) := by omega
            clear hltI hlt
            go_wp2
            go_still_tail 13, (by kernel_rfl)
            change wpList _ _ _ _ _ wr.drew
            go_wp2
            exact pick_end_drew (p := ⟨2, a, b, c, d, 0⟩) (b := true) (q := ⟨0, 0, 0, 0, 0, 0⟩) rfl rfl rfl ⟨z0, z1, z2, z3, z4, z5⟩ Hw.out Hyes.out
          · have hkb : ((k : Int) == 4) = false := by rw [beq_eq_false_iff_ne]; omega
            have Hno := Lib.hid (pickR_fail HN.out Hh.out (by rw [h2]; simp) (by rw [hns]; exact fun h => hn h.2) (by rw [h2]; simp))
            obtain ⟨a2, cap2, rfl⟩ := owns_slice hown
            subst h2
            go_wp2
            exact pick_end (p := ⟨0, 0, 0, 0, 0, 0⟩) (b := false) (q := ⟨0, 0, 0, 0, 0, 0⟩) rfl rfl rfl ⟨z0, z1, z2, z3, z4, z5⟩ Hw.out Hno.out
        · by_cases h3 : hd = [97]
          · by_cases hn : k = 5
            · have h1 := h3; clear h3 h2
              obtain ⟨a, b, c, d, e, hns2⟩ := len5 (hns.trans hn)
              have Hyes := Lib.hid (pickR_a HN.out (h1 ▸ Hh.out) hns2)
              obtain ⟨g2, cap2, rfl, hc2, hg2, hgl2, hcs⟩ := owns_cells hown (by omega)
              rw [hns2] at hcs
              have d0 := hcs 0 _ rfl
              have d1 := hcs 1 _ rfl
              have d2 := hcs 2 _ rfl
              have d3 := hcs 3 _ rfl
              have d4 := hcs 4 _ rfl
              clear hcs hown hns2
              subst h1 hn
              have hl2 : ¬ ((6 : Int) < (ps.length : Int)) := by omega
              clear hltI hlt
              go_wp2
              go_still_tail 16, (by kernel_rfl)
              change wpList _ _ _ _ _ wr.drew
              go_wp2
              exact pick_end_drew (p := ⟨3, a, b, d, e, c⟩) (b := true) (q := ⟨0, 0, 0, 0, 0, 0⟩) rfl rfl rfl ⟨z0, z1, z2, z3, z4, z5⟩ Hw.out Hyes.out
            · have hkb : ((k : Int) == 5) = false := by rw [beq_eq_false_iff_ne]; omega
              have Hno := Lib.hid (pickR_fail HN.out Hh.out (by rw [h3]; simp) (by rw [h3]; simp) (by rw [hns]; exact fun h => hn h.2))
              obtain ⟨a2, cap2, rfl⟩ := owns_slice hown
              subst h3
              go_wp2
              exact pick_end (p := ⟨0, 0, 0, 0, 0, 0⟩) (b := false) (q := ⟨0, 0, 0, 0, 0, 0⟩) rfl rfl rfl ⟨z0, z1, z2, z3, z4, z5⟩ Hw.out Hno.out
          · have q1 : (hd == [103]) = false := by simpa using h1
            have q2 : (hd == [109]) = false := by simpa using h2
            have q3 : (hd == [97]) = false := by simpa using h3
            have Hno := Lib.hid (pickR_fail HN.out Hh.out (fun h => h1 h.1) (fun h => h2 h.1) (fun h => h3 h.1))
            obtain ⟨a2, cap2, rfl⟩ := owns_slice hown
            clear h1 h2 h3
            go_wp2
            exact pick_end (p := ⟨0, 0, 0, 0, 0, 0⟩) (b := false) (q := ⟨0, 0, 0, 0, 0, 0⟩) rfl rfl rfl ⟨z0, z1, z2, z3, z4, z5⟩ Hw.out Hno.out
end Go.Proofs.YtlohcmnckfndlaaDoor
