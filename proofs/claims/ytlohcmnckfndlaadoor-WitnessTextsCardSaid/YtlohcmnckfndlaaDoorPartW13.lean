/-
  A part of the proof of WitnessTexts: contracts of functions that the law reaches.
-/
import Derived.Test.YtlohcmnckfndlaaDoorPartW12
import Derived.Deep.AppendLies
namespace Go.Proofs.YtlohcmnckfndlaaDoor
open Go Go.RowKit

theorem info36 : (Tryd.prog.info? 36).map (fun i => (i.zero, i.size, i.bytes)) = some (some (.agg (pkCells ⟨0, 0, 0, 0, 0, 0⟩)), 6, 48) := by kernel_rfl

/-- The cells of picks in a row. -/
abbrev Ps (l : List Pk) : List Value := l.flatMap fun p => (pkCells p).toList

theorem ps_get : ∀ (l : List Pk) (i j : Nat) (p : Pk), l[i]? = some p → j < 6 → (Ps l)[i * 6 + j]? = (pkCells p).toList[j]?
  | [], i, j, p, h, _ => by simp at h
  | q :: r, 0, j, p, h, hj => by
    simp at h; subst h
    rw [Ps, List.flatMap_cons, List.getElem?_append_left (by simpa using hj)]; simp
  | q :: r, i + 1, j, p, h, hj => by
    simp only [List.getElem?_cons_succ] at h
    rw [Ps, List.flatMap_cons, List.getElem?_append_right (by simp; omega)]
    rw [show (i + 1) * 6 + j - (pkCells q).toList.length = i * 6 + j by simp; omega]
    exact ps_get r i j p h hj

theorem ps_len (l : List Pk) : (Ps l).length = l.length * 6 := by
  induction l with
  | nil => rfl
  | cons p r ih => rw [Ps, List.flatMap_cons, List.length_append, ih]; simp; omega

theorem owns_pks {w : World} {base : Nat} {e : TypeId} {v : Value} {l : List Pk} (h : w.ownsRow base e 6 v l.length (Ps l)) : ∃ a cap, v = .slice a l.length cap ∧ l.length ≤ cap ∧ PkRow w a l := by
  rcases h.2 with ⟨rfl, h0⟩ | ⟨g, cap, cur, rfl, hb, hg, hc, hm, hs, ht⟩
  · have : l = [] := List.length_eq_zero_iff.1 h0
    subst this
    exact ⟨_, 0, rfl, Nat.le_refl _, .inl rfl⟩
  · refine ⟨_, _, rfl, hc, .inr ⟨g, 0, rfl, ?_, fun i p hi => ?_⟩⟩
    · rcases Nat.lt_or_ge g w.heap.size with h | h
      · exact h
      · rw [Array.getElem?_eq_none h] at hg; cases hg
    · have hlt : i < l.length := by
        rcases Nat.lt_or_ge i l.length with h | h
        · exact h
        · rw [List.getElem?_eq_none h] at hi; cases hi
      have hc : ∀ j u, j < 6 → (pkCells p).toList[j]? = some u → w.cell? ⟨g, i * 6 + j, none⟩ = some u := by
        intro j u hj hu
        rw [blk_cell hg, ← Array.getElem?_toList]
        have : (cur.toList.take (l.length * 6))[i * 6 + j]? = some u := by rw [ht, ps_get l i j p hi hj, hu]
        rw [List.getElem?_take, if_pos (by omega)] at this
        exact this
      rw [Nat.zero_add]
      exact ⟨hc 0 _ (by omega) rfl, hc 1 _ (by omega) rfl, hc 2 _ (by omega) rfl, hc 3 _ (by omega) rfl, hc 4 _ (by omega) rfl, hc 5 _ (by omega) rfl⟩

theorem ps_snoc (l : List Pk) (p : Pk) : Ps (l ++ [p]) = Ps l ++ [.int .u8 p.kind, .int .i64 p.rank, .int .i64 p.call, .int .i64 p.fr, .int .i64 p.sq, .int .i64 p.val] := by simp [Ps]

theorem picksR_snoc : ∀ {l : List (List UInt8)} {ps : List Pk} {x : List UInt8} {p : Pk}, picksR l = some ps → pickR x = some p → picksR (l ++ [x]) = some (ps ++ [p])
  | [], ps, x, p, h, hx => by simp [picksR] at h; subst h; simp [picksR, hx]
  | y :: r, ps, x, p, h, hx => by
    simp only [picksR] at h
    split at h
    · cases h
    · rename_i a ha
      split at h
      · cases h
      · rename_i m hm
        simp at h; subst h
        simp only [List.cons_append, picksR, ha, picksR_snoc hm hx]
theorem picksR_no : ∀ {l : List (List UInt8)} {x : List UInt8}, x ∈ l → pickR x = none → picksR l = none
  | y :: r, x, h, hx => by
    rcases List.mem_cons.1 h with rfl | h
    · simp [picksR, hx]
    · simp only [picksR, picksR_no h hx]; split <;> rfl

theorem rp_some {l : List UInt8} {p : Pk} (h : pickR l = some p) (w : World) (hl : l.length ≤ 90000) :
    Calls Tryd.prog 16 #[.string (bs l)] w fun e w' => e = .returned (.tuple #[.agg (pkCells p), .bool true]) ∧ Below w.heap.size w w' := by
  refine (rpick_any l w hl).mono ?_
  rintro e w' ⟨⟨q, b, rfl, hv⟩, hb⟩
  cases b with
  | false => rw [h] at hv; simp at hv
  | true => rw [h] at hv; simp at hv; subst hv; exact ⟨rfl, hb⟩
theorem rp_none {l : List UInt8} (h : pickR l = none) (w : World) (hl : l.length ≤ 90000) :
    Calls Tryd.prog 16 #[.string (bs l)] w fun e w' => ∃ q, e = .returned (.tuple #[.agg (pkCells q), .bool false]) ∧ Below w.heap.size w w' := by
  refine (rpick_any l w hl).mono ?_
  rintro e w' ⟨⟨q, b, rfl, hv⟩, hb⟩
  cases b with
  | true => rw [h] at hv; simp at hv
  | false => exact ⟨q, rfl, hb⟩

/-- What a schedule's text comes to. -/
def ParseOut (o : Option (List Pk)) (e : Ending) (w : World) : Prop := match o with
  | some l => ∃ a cap, e = .returned (.tuple #[.slice a l.length cap, .int .i64 0]) ∧ l.length ≤ cap ∧ PkRow w a l
  | none => e = .returned (.tuple #[.slice none 0 0, .int .i64 240])

theorem pk_news (w : World) (p : Pk) : ∀ (j : Nat) (u : Value), (pkCells p).toList[j]? = some u → ((w.alloc (.cells (pkCells p) 36)).alloc (.cells (pkCells p) 36)).cell? ((⟨w.heap.size + 1, 0, none⟩ : Addr).add j) = some u := by
  have e := heap_alloc_new (w.alloc (.cells (pkCells p) 36)) (.cells (pkCells p) 36)
  rw [sz] at e
  exact World.news_of_block e

set_option maxRecDepth 100000 in
set_option maxHeartbeats 1000000 in
theorem rparse_dash (w : World) :
    Calls Tryd.prog 7 #[.string (bs [45])] w fun e w' => ParseOut (parseR [45]) e w' ∧ Below w.heap.size w w' := by
  have hT : (bs [45]).toList = [45] := by rw [ByteArray.toList_eq]; rfl
  have HO := Lib.hid (show ∀ w : World, ParseOut (parseR [45]) (.returned (.tuple #[.slice none 0 0, .int .i64 0])) w from fun w => ⟨none, 0, rfl, Nat.le_refl _, .inl rfl⟩)
  go_enter Tryd.func7, Tryd.ntmps7
  go_wp2
  go_ret2
  exact ⟨HO.out _, Below.refl _ _⟩

set_option maxRecDepth 100000 in
set_option maxHeartbeats 1000000 in
theorem rparse_t (s : List UInt8) (w : World) (hs : s ≠ [45]) (hl : s.length ≤ 80000) :
    Calls Tryd.prog 7 #[.string (bs s)] w fun e w' => ParseOut (parseR s) e w' ∧ Below w.heap.size w w' := by
  obtain ⟨i0, hi0, hz0, hz1, hz2⟩ := info_parts info36
  have HPar := Lib.hid (show parseR s = picksR (parts 32 s) by rw [parseR, if_neg hs])
  have hT : (bs s).toList = s := by rw [ByteArray.toList_eq]; rfl
  have q0 : (s == [45]) = false := by simpa using hs
  have HS := Lib.hid (split_row 32 s w (by omega))
  have hP0 : 0 < (parts 32 s).length := List.length_pos_iff.2 (parts_ne 32 s)
  have hP1 : (parts 32 s).length ≤ 80001 := by have := parts_length 32 s; omega
  obtain ⟨ps, hps⟩ : ∃ ps, ps = parts 32 s := ⟨_, rfl⟩
  have Hps := Lib.hid hps
  rw [← hps] at HS hP0 hP1 HPar
  clear hps hs
  go_enter Tryd.func7, Tryd.ntmps7
  go_wp2_with (go_at_call 15; go_fit HS.out; rintro e w1 ⟨g, cap, rfl, hcap, hgb, hrow, hb1⟩)
  obtain ⟨B2, hB2⟩ : ∃ B2, B2 = w1.heap.size := ⟨_, rfl⟩
  have hgB2 : g < B2 := hB2 ▸ hrow.1
  have HB1 := Lib.hid hb1
  have hwB : w.heap.size ≤ B2 := hB2 ▸ hb1.size
  have HBle := Lib.hid (show ∀ wr, Below B2 w1 wr → B2 ≤ wr.heap.size from fun wr h => hB2 ▸ h.size)
  have Hrow := Lib.hid hrow
  clear hrow hgb hb1 hB2
  go_loopw [4, 6] (fun v i wr => ∃ (k : Nat) (l : List Pk), k ≤ ps.length ∧ l.length = k ∧ i = .int .i64 k ∧ wr.ownsRow B2 36 6 v k (Ps l) ∧ Below B2 w1 wr ∧ picksR (ps.take k) = some l) (fun _ i _ => ps.length - (intOf i).toNat)
  case atStart => exact ⟨0, [], by omega, rfl, rfl, World.ownsRow_nil _ _ _ _, Below.refl _ _, rfl⟩
  case round =>
    obtain ⟨k, l, hk, hlk, rfl, hown, hB, hpr⟩ := hrel
    have Hpr := Lib.hid hpr
    have hBs := HBle.out wr hB
    have Hw := Lib.hid (HB1.out.trans (hB.mono hwB))
    clear hpr
    by_cases hlt : k < ps.length
    · have hi := List.getElem?_eq_getElem hlt
      obtain ⟨x, hx⟩ : ∃ x, x = ps[k] := ⟨_, rfl⟩
      rw [← hx] at hi
      have hcell := (Hrow.out.below hB hgB2).2 k x hi
      have hxl : x.length ≤ 90000 := by have := parts_len 32 s x (Hps.out ▸ List.mem_of_getElem? hi); omega
      have Htk := Lib.hid (show ps.take (k + 1) = ps.take k ++ [x] by rw [List.take_add_one, hi]; rfl)
      have k0 : (0 : Int) ≤ (k : Int) := by omega
      have k1 : (k : Int) < (ps.length : Int) := by omega
      clear hx
      cases hpk : pickR x with
      | none =>
        have Hno := Lib.hid (show ∀ w : World, ParseOut (parseR s) (.returned (.tuple #[.slice none 0 0, .int .i64 240])) w from fun w => by rw [HPar.out, picksR_no (List.mem_of_getElem? hi) hpk]; rfl)
        have Hc := Lib.hid (rp_none hpk wr hxl)
        clear hpk hi
        go_wp2_with (go_at_call 16; go_fit Hc.out; rintro e w2 ⟨q, rfl, hb2⟩; have HB3 := Lib.hid ((Hw.out.trans (hb2.mono (by omega))).alloc (by have := hb2.size; omega) (.cells (pkCells q) 36)); clear hb2)
        go_ret2
        exact ⟨Hno.out _, HB3.out⟩
      | some p =>
        have Hc := Lib.hid (rp_some hpk wr hxl)
        have Hpr2 : Hid (picksR (ps.take (k + 1)) = some (l ++ [p])) := by rw [Htk.out]; exact picksR_snoc Hpr.out hpk
        have Hk1 : Hid ((l ++ [p]).length = k + 1) := Lib.hid (by simp [hlk])
        clear hpk hi
        go_wp2_with (first
          | (go_at_call 16; go_fit Hc.out; rintro e w2 ⟨rfl, hb2⟩; have hown2 := owns_below hown hb2)
          | (at_builtin; refine wpList_append_own _ rfl _ _ 22 rfl B2 36 i0 (.agg (pkCells ⟨0, 0, 0, 0, 0, 0⟩)) 6 48 Tryd.underlying22 hi0 hz0 hz1 hz2 rfl (by decide) _ _ _ rfl ((hown2.alloc _).alloc _) ⟨w2.heap.size + 1, 0, none⟩ 1 1 (pkCells p).toList rfl rfl (pk_news w2 p) ?c2 ?c3 ?c4 ?c5 ?_))
        case c2 => exact ⟨rfl, rfl, rfl, rfl, rfl, rfl⟩
        case c3 => unfold maxLen; omega
        case c4 => omega
        case c5 => have := hb2.size; rw [sz, sz]; omega
        · intro v' w3 hown' hgrow _
          have hs2 := hb2.size
          have Hown : Hid (w3.ownsRow B2 36 6 v' (k + 1) (Ps (l ++ [p]))) := by rw [ps_snoc]; simpa [Hid] using hown'
          have HB4 : Hid (Below B2 w1 w3) := Lib.hid ((((hB.trans (hb2.mono hBs)).alloc (by omega) _).alloc (by rw [sz]; omega) _).grown hgrow (by rw [sz, sz]; omega) (fun j hj => (hown2.lt j hj).1))
          clear hown' hgrow hown hown2 hb2
          go_wp2
          go_roundw
          case rel => exact ⟨k + 1, l ++ [p], by omega, Hk1.out, by go_num, Hown.out, HB4.out, Hpr2.out⟩
          case measure => simp [intOf]; omega
    · obtain rfl : k = ps.length := by omega
      have HO := Lib.hid (show ∀ a cap, u4 = .slice a l.length cap → l.length ≤ cap → PkRow wr a l → ParseOut (parseR s) (.returned (.tuple #[u4, .int .i64 0])) wr from fun a cap h1 h2 h3 => by
        have := Hpr.out; rw [List.take_length] at this
        rw [HPar.out, this, h1]; exact ⟨a, cap, rfl, h2, h3⟩)
      rw [← hlk] at hown
      obtain ⟨a, cp, hv, hc, hr⟩ := owns_pks hown
      have HO2 := Lib.hid (HO.out a cp hv hc hr)
      clear hv hr hown hlk
      go_wp2
      go_ret2
      exact ⟨HO2.out, Hw.out⟩

/-- THE DOCUMENT's READING OF A SCHEDULE. -/
theorem rparse_any (s : List UInt8) (w : World) (hl : s.length ≤ 80000) :
    Calls Tryd.prog 7 #[.string (bs s)] w fun e w' => ParseOut (parseR s) e w' ∧ Below w.heap.size w w' := by
  by_cases h : s = [45]
  · subst h; exact rparse_dash w
  · exact rparse_t s w h hl
end Go.Proofs.YtlohcmnckfndlaaDoor
