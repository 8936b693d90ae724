/-
  A part of the proof of WitnessTexts: contracts of functions that the law reaches.
-/
import Derived.Test.YtlohcmnckfndlaaDoorPartW7
namespace Go.Proofs.YtlohcmnckfndlaaDoor
open Go Go.RowKit

theorem bs_get (l : List UInt8) (k : Nat) (x : UInt8) (h : l[k]? = some x) : ∀ hk, (bs l)[k]'hk = x := by
  intro hk
  have : k < l.length := by rw [bs_size] at hk; exact hk
  rw [List.getElem?_eq_getElem this] at h
  simp at h; subst h
  simp [bs, ByteArray.getElem_eq_getElem_data]

theorem bs_tail (b : UInt8) (r : List UInt8) : (bs (b :: r)).extract 1 (r.length + 1) = bs r := by
  apply ByteArray.ext; simp [bs, ByteArray.data_extract]

theorem downR_take {d : List UInt8} {k : Nat} {x : UInt8} (h : d[k]? = some x) : downR (d.take (k + 1)) = wrap64 (wrap64 (10 * downR (d.take k)) - ((x.toNat : Int) - 48)) := by
  rw [List.take_add_one, h]; simp [downR, List.foldl_append]

/-- What a number's text comes to. -/
def NumOut (l : List UInt8) (e : Ending) : Prop := ∃ v b, e = .returned (.tuple #[.int .i64 v, .bool b]) ∧ (if b then numR l = some v else numR l = none)

theorem numOut_no {l : List UInt8} (h : numR l = none) : NumOut l (.returned (.tuple #[.int .i64 0, .bool false])) := ⟨0, false, rfl, by simpa using h⟩

theorem numR_len {l : List UInt8} (h : (digR l).length < 1 ∨ 19 < (digR l).length) : numR l = none := by rw [numR, if_pos h]
theorem numR_bad {l : List UInt8} {k : Nat} {x : UInt8} (h : (digR l)[k]? = some x) (hx : x.toNat < 48 ∨ 57 < x.toNat) : numR l = none := by
  rw [numR]; split
  · rfl
  · rw [if_pos]
    rw [List.all_eq_false]
    refine ⟨x, List.mem_of_getElem? h, ?_⟩
    simp [isDigit]; omega
theorem numR_all {l : List UInt8} (h : ¬ ((digR l).length < 1 ∨ 19 < (digR l).length)) (ha : ∀ x ∈ digR l, 48 ≤ x.toNat ∧ x.toNat ≤ 57) : numR l = if Lib.itoa (valR l) = l then some (valR l) else none := by
  rw [numR, if_neg h, if_neg]
  rw [Bool.not_eq_false, List.all_eq_true]
  intro x hx; have := ha x hx; simp [isDigit]; omega

theorem bs_eq (a b : List UInt8) : ((bs a).toList == (bs b).toList) = decide (a = b) := by
  rw [ByteArray.toList_eq, ByteArray.toList_eq]; by_cases h : a = b <;> simp [bs, h]

theorem numOut_end {l : List UInt8} (h : ¬ ((digR l).length < 1 ∨ 19 < (digR l).length)) (ha : ∀ x ∈ digR l, 48 ≤ x.toNat ∧ x.toNat ≤ 57) : NumOut l (.returned (.tuple #[.int .i64 (valR l), .bool (decide (Lib.itoa (valR l) = l))])) := by
  refine ⟨_, _, rfl, ?_⟩
  rw [numR_all h ha]
  by_cases e : Lib.itoa (valR l) = l
  · simp [e]
  · simp [e]

theorem numR_nil : numR [] = none := numR_len (by simp [digR])

set_option maxRecDepth 100000 in
theorem num_nil (w : World) : Calls Tryd.prog 26 #[.string (bs [])] w fun e w' => NumOut [] e ∧ Below w.heap.size w w' := by
  have hz : (bs []).size = 0 := rfl
  have HR := Lib.hid (numOut_no numR_nil)
  go_enter Tryd.func26, Tryd.ntmps26
  go_wp2
  go_ret2
  exact ⟨HR.out, Below.refl _ _⟩

set_option maxRecDepth 100000 in
set_option maxHeartbeats 1000000 in
theorem num_neg (d : List UInt8) (w : World) (hl : d.length ≤ 100000) :
    Calls Tryd.prog 26 #[.string (bs (45 :: d))] w fun e w' => NumOut (45 :: d) e ∧ Below w.heap.size w w' := by
  have hz : (bs (45 :: d)).size = d.length + 1 := bs_size _
  have hb0 : ∀ hk, (bs (45 :: d))[0]'hk = 45 := bs_get _ 0 45 rfl
  have htl : (bs (45 :: d)).extract 1 (d.length + 1) = bs d := bs_tail 45 d
  have hdg : digR (45 :: d) = d := by simp [digR]
  have hval : valR (45 :: d) = downR d := by rw [valR, hdg, if_neg (by simp)]
  have hzd : (bs d).size = d.length := bs_size _
  have HR := Lib.hid (@numOut_no (45 :: d))
  by_cases hlen : d.length < 1 ∨ 19 < d.length
  · have HL := Lib.hid (numR_len (l := (45 :: d)) (by rw [hdg]; exact hlen))
    by_cases h1 : d.length < 1
    · have h2 : ¬ 19 < d.length := by omega
      clear hlen
      go_enter Tryd.func26, Tryd.ntmps26
      go_wp2
      go_ret2
      exact ⟨HR.out HL.out, Below.refl _ _⟩
    · have h2 : 19 < d.length := by omega
      clear hlen
      go_enter Tryd.func26, Tryd.ntmps26
      go_wp2
      go_ret2
      exact ⟨HR.out HL.out, Below.refl _ _⟩
  · have HE := Lib.hid (fun ha => numOut_end (l := (45 :: d)) (by rw [hdg]; exact hlen) ha)
    rw [hdg, hval] at HE
    have h1 : 1 ≤ d.length := by omega
    have h2 : d.length ≤ 19 := by omega
    have HV := Lib.hid hval
    have HB := Lib.hid (fun k x (h : d[k]? = some x) (hx : x.toNat < 48 ∨ 57 < x.toNat) => numR_bad (l := (45 :: d)) (k := k) (x := x) (by rw [hdg]; exact h) hx)
    clear hlen hval hdg
    go_enter Tryd.func26, Tryd.ntmps26
    go_wp2
    go_loopw [5, 6] (fun v i wr => ∃ k : Nat, k ≤ d.length ∧ i = .int .i64 k ∧ v = .int .i64 (downR (d.take k)) ∧ Below w.heap.size w wr ∧ (∀ x ∈ d.take k, 48 ≤ x.toNat ∧ x.toNat ≤ 57)) (fun _ i _ => d.length - (intOf i).toNat)
    case atStart => exact ⟨0, by omega, rfl, rfl, Below.refl _ _, by simp⟩
    case round =>
      obtain ⟨k, hk, rfl, rfl, hB, hall⟩ := hrel
      by_cases hlt : k < d.length
      · have hi := List.getElem?_eq_getElem hlt
        obtain ⟨x, hx⟩ : ∃ x, x = d[k] := ⟨_, rfl⟩
        rw [← hx] at hi
        have hgx := bs_get d k x hi
        have Ht := Lib.hid (downR_take hi)
        have Hbad := Lib.hid (HB.out k x hi)
        have Hall : Hid (48 ≤ x.toNat → x.toNat ≤ 57 → ∀ y ∈ d.take (k + 1), 48 ≤ y.toNat ∧ y.toNat ≤ 57) := by
          intro a b y hy
          rw [List.take_add_one, hi] at hy
          simp at hy
          rcases hy with h | h
          · exact hall y h
          · rw [h]; exact ⟨a, b⟩
        clear hall hi hx
        by_cases hx1 : x.toNat < 48
        · have hc1 : (x.toNat : Int) < 48 := by omega
          have Hr := Lib.hid (Hbad.out (.inl hx1))
          clear hx1
          go_wp2
          go_ret2
          exact ⟨HR.out Hr.out, hB⟩
        · by_cases hx2 : 57 < x.toNat
          · have hc1 : ¬ (x.toNat : Int) < 48 := by omega
            have hc2 : (57 : Int) < (x.toNat : Int) := by omega
            have Hr := Lib.hid (Hbad.out (.inr hx2))
            clear hx1 hx2
            go_wp2
            go_ret2
            exact ⟨HR.out Hr.out, hB⟩
          · have hc1 : ¬ (x.toNat : Int) < 48 := by omega
            have hc2 : ¬ (57 : Int) < (x.toNat : Int) := by omega
            have Ha := Lib.hid (Hall.out (by omega) (by omega))
            clear hx1 hx2
            go_wp2
            go_roundw
            case rel => exact ⟨k + 1, by omega, by go_num, by rw [Ht.out], hB, Ha.out⟩
            case measure => simp [intOf]; omega
      · obtain rfl : k = d.length := by omega
        rw [List.take_length] at hall ⊢
        have Hend := Lib.hid (HE.out hall)
        have heq := bs_eq (Lib.itoa (downR d)) (45 :: d)
        clear hall
        go_wp2_with (go_at_call 30; go_fit (number_any (downR d) _ (downR_in d)); rintro e w1 ⟨rfl, hb1⟩)
        go_ret2
        exact ⟨Hend.out, hB.trans (hb1.mono hB.size)⟩

set_option maxRecDepth 100000 in
set_option maxHeartbeats 1000000 in
theorem num_pos (b : UInt8) (r d : List UInt8) (hd : d = b :: r) (w : World) (hb45 : b ≠ 45) (hl : d.length ≤ 100000) :
    Calls Tryd.prog 26 #[.string (bs d)] w fun e w' => NumOut d e ∧ Below w.heap.size w w' := by
  have hb0 : ∀ hk, (bs d)[0]'hk = b := bs_get _ 0 b (by rw [hd]; rfl)
  have hb1 : ((b.toNat : Int) == 45) = false := by
    rw [beq_eq_false_iff_ne]; intro e; apply hb45; apply UInt8.toNat_inj.1; exact Int.ofNat.inj e
  have hdg : digR d = d := by rw [digR, if_neg]; rw [hd]; simpa using hb45
  have hval : valR d = wrap64 (-(downR d)) := by rw [valR, hdg, if_pos rfl]
  have hpos : 0 < d.length := by rw [hd]; simp
  clear hd hb45
  have hzd : (bs d).size = d.length := bs_size _
  have HR := Lib.hid (@numOut_no d)
  by_cases hlen : d.length < 1 ∨ 19 < d.length
  · have HL := Lib.hid (numR_len (l := d) (by rw [hdg]; exact hlen))
    by_cases h1 : d.length < 1
    · omega
    · have h2 : 19 < d.length := by omega
      clear hlen
      go_enter Tryd.func26, Tryd.ntmps26
      go_wp2
      go_ret2
      exact ⟨HR.out HL.out, Below.refl _ _⟩
  · have HE := Lib.hid (fun ha => numOut_end (l := d) (by rw [hdg]; exact hlen) ha)
    rw [hdg, hval] at HE
    have h1 : 1 ≤ d.length := by omega
    have h2 : d.length ≤ 19 := by omega
    have HV := Lib.hid hval
    have HB := Lib.hid (fun k x (h : d[k]? = some x) (hx : x.toNat < 48 ∨ 57 < x.toNat) => numR_bad (l := d) (k := k) (x := x) (by rw [hdg]; exact h) hx)
    clear hlen hval hdg
    go_enter Tryd.func26, Tryd.ntmps26
    go_wp2
    go_loopw [5, 6] (fun v i wr => ∃ k : Nat, k ≤ d.length ∧ i = .int .i64 k ∧ v = .int .i64 (downR (d.take k)) ∧ Below w.heap.size w wr ∧ (∀ x ∈ d.take k, 48 ≤ x.toNat ∧ x.toNat ≤ 57)) (fun _ i _ => d.length - (intOf i).toNat)
    case atStart => exact ⟨0, by omega, rfl, rfl, Below.refl _ _, by simp⟩
    case round =>
      obtain ⟨k, hk, rfl, rfl, hB, hall⟩ := hrel
      by_cases hlt : k < d.length
      · have hi := List.getElem?_eq_getElem hlt
        obtain ⟨x, hx⟩ : ∃ x, x = d[k] := ⟨_, rfl⟩
        rw [← hx] at hi
        have hgx := bs_get d k x hi
        have Ht := Lib.hid (downR_take hi)
        have Hbad := Lib.hid (HB.out k x hi)
        have Hall : Hid (48 ≤ x.toNat → x.toNat ≤ 57 → ∀ y ∈ d.take (k + 1), 48 ≤ y.toNat ∧ y.toNat ≤ 57) := by
          intro a b y hy
          rw [List.take_add_one, hi] at hy
          simp at hy
          rcases hy with h | h
          · exact hall y h
          · rw [h]; exact ⟨a, b⟩
        clear hall hi hx
        by_cases hx1 : x.toNat < 48
        · have hc1 : (x.toNat : Int) < 48 := by omega
          have Hr := Lib.hid (Hbad.out (.inl hx1))
          clear hx1
          go_wp2
          go_ret2
          exact ⟨HR.out Hr.out, hB⟩
        · by_cases hx2 : 57 < x.toNat
          · have hc1 : ¬ (x.toNat : Int) < 48 := by omega
            have hc2 : (57 : Int) < (x.toNat : Int) := by omega
            have Hr := Lib.hid (Hbad.out (.inr hx2))
            clear hx1 hx2
            go_wp2
            go_ret2
            exact ⟨HR.out Hr.out, hB⟩
          · have hc1 : ¬ (x.toNat : Int) < 48 := by omega
            have hc2 : ¬ (57 : Int) < (x.toNat : Int) := by omega
            have Ha := Lib.hid (Hall.out (by omega) (by omega))
            clear hx1 hx2
            go_wp2
            go_roundw
            case rel => exact ⟨k + 1, by omega, by go_num, by rw [Ht.out], hB, Ha.out⟩
            case measure => simp [intOf]; omega
      · obtain rfl : k = d.length := by omega
        rw [List.take_length] at hall ⊢
        have Hend := Lib.hid (HE.out hall)
        have heq := bs_eq (Lib.itoa (wrap64 (-(downR d)))) d
        clear hall
        go_wp2_with (go_at_call 30; go_fit (number_any (wrap64 (-(downR d))) _ (wrap64_bounds _)); rintro e w1 ⟨rfl, hb1⟩)
        go_ret2
        exact ⟨Hend.out, hB.trans (hb1.mono hB.size)⟩

/-- A NUMBER's TEXT READ (the document's). -/
theorem num_any (l : List UInt8) (w : World) (hl : l.length ≤ 100000) :
    Calls Tryd.prog 26 #[.string (bs l)] w fun e w' => NumOut l e ∧ Below w.heap.size w w' := by
  cases l with
  | nil => exact num_nil w
  | cons b r =>
    by_cases h : b = 45
    · subst h; exact num_neg r w (by simp at hl; omega)
    · exact num_pos b r (b :: r) rfl w h hl
end Go.Proofs.YtlohcmnckfndlaaDoor
