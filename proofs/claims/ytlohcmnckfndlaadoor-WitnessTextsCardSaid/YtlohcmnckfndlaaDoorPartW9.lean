/-
  A part of the proof of WitnessTexts: contracts of functions that the law reaches.
-/
import Derived.Test.YtlohcmnckfndlaaDoorPartW8
namespace Go.Proofs.YtlohcmnckfndlaaDoor
open Go Go.RowKit

theorem bs_cut (l : List UInt8) (a b : Nat) : (bs l).extract a b = bs ((l.drop a).take (b - a)) := by
  apply ByteArray.ext; apply Array.toList_inj.1
  simp [bs, ByteArray.data_extract]

/-- The strings gathered. -/
abbrev Ss (l : List (List UInt8)) : List Value := l.map fun x => Value.string (bs x)

/-- How far the splitting has come. -/
structure SplitAt (c : UInt8) (s : List UInt8) (k st : Nat) (D : List (List UInt8)) : Prop where
  le : k ≤ s.length
  sl : st ≤ k
  done : parts c s = D ++ parts c (s.drop st)
  free : c ∉ (s.drop st).take (k - st)

theorem SplitAt.start (c : UInt8) (s : List UInt8) : SplitAt c s 0 0 [] := ⟨by omega, by omega, by simp, by simp⟩
theorem SplitAt.last {c : UInt8} {s : List UInt8} {st : Nat} {D : List (List UInt8)} (h : SplitAt c s s.length st D) : D ++ [(s.drop st).take (s.length - st)] = parts c s := by
  have e : (s.drop st).take (s.length - st) = s.drop st := by apply List.take_of_length_le; simp
  have hf := h.free
  rw [e] at hf ⊢
  rw [h.done, parts_free c _ hf]
theorem SplitAt.cut {c : UInt8} {s : List UInt8} {k st : Nat} {D : List (List UInt8)} (h : SplitAt c s k st D) (hk : s[k]? = some c) : SplitAt c s (k + 1) (k + 1) (D ++ [(s.drop st).take (k - st)]) := by
  have hlt : k < s.length := by
    rcases Nat.lt_or_ge k s.length with h | h
    · exact h
    · rw [List.getElem?_eq_none h] at hk; cases hk
  have hst := h.sl
  have e : s.drop st = (s.drop st).take (k - st) ++ c :: s.drop (k + 1) := by
    have e1 := (List.take_append_drop (k - st) (s.drop st)).symm
    rw [List.drop_drop, show st + (k - st) = k by omega] at e1
    rw [List.getElem?_eq_getElem hlt] at hk
    simp at hk
    rw [List.drop_eq_getElem_cons hlt, hk] at e1
    exact e1
  refine ⟨hlt, by omega, ?_, by simp⟩
  rw [h.done]
  have := parts_app c (s.drop (k + 1)) _ h.free
  rw [← e] at this
  rw [this]; simp
theorem SplitAt.go {c x : UInt8} {s : List UInt8} {k st : Nat} {D : List (List UInt8)} (h : SplitAt c s k st D) (hk : s[k]? = some x) (hx : x ≠ c) : SplitAt c s (k + 1) st D := by
  have hlt : k < s.length := by
    rcases Nat.lt_or_ge k s.length with h | h
    · exact h
    · rw [List.getElem?_eq_none h] at hk; cases hk
  have hst := h.sl
  refine ⟨hlt, by omega, h.done, ?_⟩
  rw [show k + 1 - st = (k - st) + 1 by omega, List.take_add_one]
  have : (s.drop st)[k - st]? = some x := by rw [List.getElem?_drop, show st + (k - st) = k by omega]; exact hk
  rw [this]
  intro hm
  rcases List.mem_append.1 hm with h1 | h1
  · exact h.free h1
  · simp at h1; exact hx h1.symm

theorem ss_snoc (D : List (List UInt8)) (x : List UInt8) : Ss (D ++ [x]) = Ss D ++ [.string (bs x)] := by simp [Ss]

set_option maxRecDepth 100000 in
set_option maxHeartbeats 1000000 in
theorem split_any (c : UInt8) (s : List UInt8) (w : World) (hl : s.length ≤ 100000) :
    Calls Tryd.prog 15 #[.string (bs s), .int .u8 c.toNat] w fun e w' => ∃ v, e = .returned v ∧ w'.ownsRow w.heap.size 9 1 v (parts c s).length (Ss (parts c s)) ∧ Below w.heap.size w w' := by
  obtain ⟨i0, hi0, hz0, hz1, hz2⟩ := info_parts info9
  obtain ⟨B, hBeq⟩ : ∃ B, B = w.heap.size := ⟨_, rfl⟩
  rw [← hBeq]
  have hz : (bs s).size = s.length := bs_size s
  have HB := Lib.hid (show ∀ wr, Below B w wr → B ≤ wr.heap.size from fun wr h => hBeq ▸ h.size)
  clear hBeq
  go_enter Tryd.func15, Tryd.ntmps15
  go_wp2
  go_loopw [5, 6, 7] (fun v t i wr => ∃ (k st : Nat) (D : List (List UInt8)), k ≤ s.length + 1 ∧ st ≤ s.length + 1 ∧ i = .int .i64 k ∧ t = .int .i64 st ∧ wr.ownsRow B 9 1 v D.length (Ss D) ∧ Below B w wr ∧ D.length ≤ k ∧
      ((k ≤ s.length → SplitAt c s k st D) ∧ (k = s.length + 1 → D = parts c s))) (fun _ _ i _ => s.length + 1 - (intOf i).toNat)
  case atStart => exact ⟨0, 0, [], by omega, by omega, rfl, rfl, World.ownsRow_nil _ _ _ _, Below.refl _ _, by simp, fun _ => SplitAt.start c s, fun h => by omega⟩
  case round =>
    obtain ⟨k, st, D, hk, hst0, rfl, rfl, hown, hB, hD, hin, hout⟩ := hrel
    by_cases hle : k ≤ s.length
    · have hst := (hin hle).sl
      have HS := Lib.hid (hin hle)
      have hBs := HB.out wr hB
      clear hin hout
      by_cases hlt : k < s.length
      · have hi := List.getElem?_eq_getElem hlt
        obtain ⟨x, hx⟩ : ∃ x, x = s[k] := ⟨_, rfl⟩
        rw [← hx] at hi
        have hgx := bs_get s k x hi
        by_cases hxc : x = c
        · have hcc : ((x.toNat : Int) == (c.toNat : Int)) = true := by rw [hxc]; simp
          have hke : ((k : Int) == (s.length : Int)) = false := by rw [beq_eq_false_iff_ne]; omega
          have Hnext := Lib.hid (HS.out.cut (hxc ▸ hi))
          have hcut := bs_cut s st k
          obtain ⟨seg, hseg⟩ : ∃ seg, seg = (s.drop st).take (k - st) := ⟨_, rfl⟩
          rw [← hseg] at hcut Hnext
          clear hxc hi hx hseg
          go_wp2_with (at_builtin; refine wpList_append_own _ rfl _ _ 34 rfl B 9 i0 (.string ⟨#[]⟩) 1 16 Tryd.underlying34 hi0 hz0 hz1 hz2 rfl (by decide) _ _ _ rfl (hown.alloc _) ⟨wr.heap.size, 0, none⟩ 1 1 [.string (bs seg)] rfl rfl ?c1 ?c2 ?c3 ?c4 ?c5 ?_)
          case c1 =>
            intro j u hj
            match j, hj with
            | 0, hj => simp at hj; subst hj; simp [Addr.add]
          case c2 => intro u hu; simp at hu; subst hu; rfl
          case c3 => unfold maxLen; omega
          case c4 => omega
          case c5 => rw [sz]; omega
          · intro v' w2 hown' hgrow _
            have Hown : Hid (w2.ownsRow B 9 1 v' (D ++ [seg]).length (Ss (D ++ [seg]))) := by rw [ss_snoc]; simpa [Hid] using hown'
            have HB2 : Hid (Below B w w2) := Lib.hid ((hB.alloc hBs _).grown hgrow (by rw [sz]; omega) (fun j hj => (hown.lt j hj).1))
            clear hown' hgrow hown
            go_wp2
            go_roundw
            case rel => exact ⟨k + 1, k + 1, D ++ [seg], by omega, by omega, by go_num, by go_num, Hown.out, HB2.out, by simp; omega, fun _ => Hnext.out, fun h => by omega⟩
            case measure => simp [intOf]; omega
        · have hcc : ((x.toNat : Int) == (c.toNat : Int)) = false := by
            rw [beq_eq_false_iff_ne]; intro e; apply hxc; apply UInt8.toNat_inj.1; exact Int.ofNat.inj e
          have hke : ((k : Int) == (s.length : Int)) = false := by rw [beq_eq_false_iff_ne]; omega
          have Hnext := Lib.hid (HS.out.go hi hxc)
          clear hxc hi hx
          go_wp2
          go_roundw
          case rel => exact ⟨k + 1, st, D, by omega, by omega, by go_num, by go_num, hown, hB, by omega, fun _ => Hnext.out, fun h => by omega⟩
          case measure => simp [intOf]; omega
      · obtain rfl : k = s.length := by omega
        have hke : ((s.length : Int) == (s.length : Int)) = true := by simp
        have Hnext := Lib.hid HS.out.last
        have hcut := bs_cut s st s.length
        obtain ⟨seg, hseg⟩ : ∃ seg, seg = (s.drop st).take (s.length - st) := ⟨_, rfl⟩
        rw [← hseg] at hcut Hnext
        clear hseg
        go_wp2_with (at_builtin; refine wpList_append_own _ rfl _ _ 34 rfl B 9 i0 (.string ⟨#[]⟩) 1 16 Tryd.underlying34 hi0 hz0 hz1 hz2 rfl (by decide) _ _ _ rfl (hown.alloc _) ⟨wr.heap.size, 0, none⟩ 1 1 [.string (bs seg)] rfl rfl ?c1 ?c2 ?c3 ?c4 ?c5 ?_)
        case c1 =>
          intro j u hj
          match j, hj with
          | 0, hj => simp at hj; subst hj; simp [Addr.add]
        case c2 => intro u hu; simp at hu; subst hu; rfl
        case c3 => unfold maxLen; omega
        case c4 => omega
        case c5 => rw [sz]; omega
        · intro v' w2 hown' hgrow _
          have Hown : Hid (w2.ownsRow B 9 1 v' (D ++ [seg]).length (Ss (D ++ [seg]))) := by rw [ss_snoc]; simpa [Hid] using hown'
          have HB2 : Hid (Below B w w2) := Lib.hid ((hB.alloc hBs _).grown hgrow (by rw [sz]; omega) (fun j hj => (hown.lt j hj).1))
          clear hown' hgrow hown
          go_wp2
          go_roundw
          case rel => exact ⟨s.length + 1, s.length + 1, D ++ [seg], by omega, by omega, by go_num, by go_num, Hown.out, HB2.out, by simp; omega, fun h => by omega, fun _ => Hnext.out⟩
          case measure => simp [intOf]
    · have HD := Lib.hid (hout (by omega))
      clear hin hout
      go_wp2
      go_ret
      exact ⟨_, rfl, by rw [← HD.out]; exact hown, hB⟩
end Go.Proofs.YtlohcmnckfndlaaDoor
