/-
  A part of the proof of WitnessTexts: contracts of functions that the law reaches.
-/
import Derived.Test.YtlohcmnckfndlaaDoorPartW17
namespace Go.Proofs.YtlohcmnckfndlaaDoor
open Go Go.RowKit

theorem textOut_is (l : List Pk) : ∃ (tx : ByteArray) (er : Int), textOut l 2 = .tuple #[.string tx, .int .i64 er] := by
  unfold textOut
  cases textL l with
  | none => exact ⟨_, _, rfl⟩
  | some t => exact ⟨_, _, rfl⟩

theorem parseOut_is (o : Option (List Pk)) : ∃ (er : Int) (l2 : List Pk), l2.length = (match o with | some l => l.length | none => 0) ∧ ∀ e w, ParseOut o e w → ∃ a cap, e = .returned (.tuple #[.slice a l2.length cap, .int .i64 er]) ∧ l2.length ≤ cap ∧ PkRow w a l2 := by
  cases o with
  | none => exact ⟨240, [], rfl, fun e w h => ⟨none, 0, h, Nat.le_refl _, .inl rfl⟩⟩
  | some l => exact ⟨0, l, rfl, fun e w h => h⟩

theorem parseP_len (s : List UInt8) (l : List Pk) (h : parseP s = some l) : l.length ≤ s.length + 1 := by
  unfold parseP at h
  split at h
  · simp at h; subst h
    unfold rawP
    split
    · simp
    · rw [List.length_map]; exact parts_length 32 s
  · cases h

set_option maxRecDepth 100000 in
set_option maxHeartbeats 2000000 in
theorem law_small (a c : Option Addr) (l m : List Pk) (ca cm : Nat) (s : List UInt8) (w : World) (hm : Mem w) (hr : PkRow w a l) (hr2 : PkRow w c m) (hin : ∀ p ∈ l, PkIn p)
    (hc : l.length ≤ ca) (hcm : m.length ≤ cm) (hl : l.length ≤ 200) (hml : m.length ≤ 200) (hs : s.length ≤ 2000) :
    Calls Tryd.prog 3 #[.slice a l.length ca, .slice c m.length cm, .string (bs s)] w fun e w' => e = .returned (.bool true) ∧ Below w.heap.size w w' := by
  have hz : (bs s).size = s.length := bs_size s
  have g1 : ¬ (200 : Int) < (l.length : Int) := by omega
  have g2 : ¬ (200 : Int) < (m.length : Int) := by omega
  have g3 : ¬ (2000 : Int) < (s.length : Int) := by omega
  obtain ⟨tx, er, hto⟩ := textOut_is l
  obtain ⟨pe, l2, hl2, hpo⟩ := parseOut_is (parseP s)
  have hl2s : l2.length ≤ 100000 := by
    rw [hl2]
    cases h : parseP s with
    | none => simp
    | some q => have := parseP_len s q h; simp; omega
  have H4 : ∀ w2, Mem w2 → PkRow w2 a l → Calls Tryd.prog 4 #[.slice a l.length ca] w2 fun e w' => e = .returned (.tuple #[.string tx, .int .i64 er]) ∧ Below w2.heap.size w2 w' := fun w2 h1 h2 => by
    have := wtext_any a l ca w2 h1 h2 hin (by omega) hc; rw [hto] at this; exact this
  have H5 : ∀ w2, PkRow w2 a l → Calls Tryd.prog 5 #[.slice a l.length ca] w2 fun e w' => e = .returned (.tuple #[.string tx, .int .i64 er]) ∧ Below w2.heap.size w2 w' := fun w2 h2 => by
    have := rtext_any a l ca w2 h2 hin (by omega) hc; rw [hto] at this; exact this
  have H6 : ∀ w2, Mem w2 → Calls Tryd.prog 6 #[.string (bs s)] w2 fun e w' => (∃ a1 cap1, e = .returned (.tuple #[.slice a1 l2.length cap1, .int .i64 pe]) ∧ l2.length ≤ cap1 ∧ PkRow w' a1 l2) ∧ Below w2.heap.size w2 w' := fun w2 h1 =>
    (wparse_any s w2 h1 hs).mono fun e w' h => ⟨hpo e w' h.1, h.2⟩
  have H7 : ∀ w2, Calls Tryd.prog 7 #[.string (bs s)] w2 fun e w' => (∃ a1 cap1, e = .returned (.tuple #[.slice a1 l2.length cap1, .int .i64 pe]) ∧ l2.length ≤ cap1 ∧ PkRow w' a1 l2) ∧ Below w2.heap.size w2 w' := fun w2 =>
    (rparse_any s w2 (by omega)).mono fun e w' h => ⟨hpo e w' (by rw [parse_eq]; exact h.1), h.2⟩
  have H4' := Lib.hid H4
  have H5' := Lib.hid H5
  have H6' := Lib.hid H6
  have H7' := Lib.hid H7
  have HM := Lib.hid hm
  have HR := Lib.hid hr
  have HR2 := Lib.hid hr2
  have HL2 := Lib.hid hl2s
  clear H4 H5 H6 H7 hto hpo hl2 hm hr hr2
  go_enter Tryd.func3, Tryd.ntmps3
  go_wp2_with (first
    | (go_at_call 4; refine (H4'.out w HM.out HR.out).mono ?_; rintro e w4 ⟨rfl, hb4⟩; have HB4 := Lib.hid hb4; clear hb4)
    | (go_at_call 5; refine (H5'.out w4 (HR.out.below HB4.out)).mono ?_; rintro e w5 ⟨rfl, hb5⟩; have HB5 := Lib.hid (HB4.out.trans (hb5.mono HB4.out.size)); clear hb5)
    | (go_at_call 6; refine (H6'.out w5 (HM.out.below HB5.out HM.out.size)).mono ?_; rintro e w6 ⟨⟨a1, cap1, rfl, hcap1, hrow1⟩, hb6⟩; have HB6 := Lib.hid (HB5.out.trans (hb6.mono HB5.out.size)); have Hr1 := Lib.hid hrow1; clear hb6 hrow1)
    | (go_at_call 7; refine (H7'.out w6).mono ?_; rintro e w7 ⟨⟨a2, cap2, rfl, hcap2, hrow2⟩, hb7⟩; have HB7 := Lib.hid (HB6.out.trans (hb7.mono HB6.out.size)); have Hr1' := Lib.hid (Hr1.out.below hb7); have Hr2 := Lib.hid hrow2; clear hb7 hrow2))
  refine (same_any a1 a2 l2 l2 cap1 cap2 w7 Hr1'.out Hr2.out HL2.out hcap1 hcap2).mono ?_
  rintro e w8 ⟨he, hb8⟩
  rw [decide_eq_true rfl] at he
  subst he
  have HB8 := Lib.hid (HB7.out.trans (hb8.mono HB7.out.size))
  clear hb8
  go_wp2_with (first
    | (go_at_call 9; refine (wsame_any a c l m ca cm w8 (HR.out.below HB8.out) (HR2.out.below HB8.out) (by omega) hc hcm).mono ?_; rintro e w9 ⟨rfl, hb9⟩; have HB9 := Lib.hid (HB8.out.trans (hb9.mono HB8.out.size)); clear hb9)
    | (go_at_call 8; refine (same_any a c l m ca cm w9 (HR.out.below HB9.out) (HR2.out.below HB9.out) (by omega) hc hcm).mono ?_; rintro e w10 ⟨rfl, hb10⟩; have HB10 := Lib.hid (HB9.out.trans (hb10.mono HB9.out.size)); clear hb10))
  go_ret
  exact ⟨rfl, HB10.out⟩

set_option maxRecDepth 100000 in
set_option maxHeartbeats 1000000 in
theorem law_great (a c : Option Addr) (n m : Nat) (ca cm : Nat) (b : ByteArray) (w : World) (h : ¬ (n ≤ 200 ∧ m ≤ 200 ∧ b.size ≤ 2000)) :
    Calls Tryd.prog 3 #[.slice a n ca, .slice c m cm, .string b] w fun e w' => e = .returned (.bool true) ∧ Below w.heap.size w w' := by
  by_cases h1 : (200 : Int) < (n : Int)
  · clear h
    go_enter Tryd.func3, Tryd.ntmps3
    go_wp2
    go_ret
    exact ⟨rfl, Below.refl _ _⟩
  · by_cases h2 : (200 : Int) < (m : Int)
    · clear h
      go_enter Tryd.func3, Tryd.ntmps3
      go_wp2
      go_ret
      exact ⟨rfl, Below.refl _ _⟩
    · have h3 : (2000 : Int) < (b.size : Int) := by omega
      clear h
      go_enter Tryd.func3, Tryd.ntmps3
      go_wp2
      go_ret
      exact ⟨rfl, Below.refl _ _⟩

/-- THE LAW's WALK. -/
theorem law_any (a c : Option Addr) (l m : List Pk) (ca cm : Nat) (b : ByteArray) (w : World) (hm : Mem w) (hr : PkRow w a l) (hr2 : PkRow w c m) (hin : ∀ p ∈ l, PkIn p)
    (hc : l.length ≤ ca) (hcm : m.length ≤ cm) :
    Calls Tryd.prog 3 #[.slice a l.length ca, .slice c m.length cm, .string b] w fun e w' => e = .returned (.bool true) ∧ Below w.heap.size w w' := by
  by_cases h : l.length ≤ 200 ∧ m.length ≤ 200 ∧ b.size ≤ 2000
  · have hb : b = bs b.data.toList := rfl
    rw [hb]
    exact law_small a c l m ca cm b.data.toList w hm hr hr2 hin hc hcm h.1 h.2.1 (show b.data.toList.length ≤ 2000 from h.2.2)
  · exact law_great a c l.length m.length ca cm b w h
end Go.Proofs.YtlohcmnckfndlaaDoor
