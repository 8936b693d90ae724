/-
  A part of the proof of WitnessTexts: contracts of functions that the law reaches.
-/
import Derived.Test.YtlohcmnckfndlaaDoorPartW2
namespace Go.Proofs.YtlohcmnckfndlaaDoor
open Go Go.RowKit

/-- A pick's cells at a place. -/
abbrev PkAtO (B o : Nat) (p : Pk) (w : World) : Prop :=
  w.cell? ⟨B, o, none⟩ = some (.int .u8 p.kind) ∧ w.cell? ⟨B, o + 1, none⟩ = some (.int .i64 p.rank) ∧ w.cell? ⟨B, o + 2, none⟩ = some (.int .i64 p.call) ∧
  w.cell? ⟨B, o + 3, none⟩ = some (.int .i64 p.fr) ∧ w.cell? ⟨B, o + 4, none⟩ = some (.int .i64 p.sq) ∧ w.cell? ⟨B, o + 5, none⟩ = some (.int .i64 p.val)

/-- A row of picks in memory. -/
def PkRow (w : World) (a : Option Addr) (l : List Pk) : Prop := l = [] ∨ ∃ b off, a = some ⟨b, off, none⟩ ∧ b < w.heap.size ∧ ∀ i p, l[i]? = some p → PkAtO b (off + i * 6) p w

theorem PkRow.below {w w' : World} {a : Option Addr} {l : List Pk} (hb : Below w.heap.size w w') (h : PkRow w a l) : PkRow w' a l := by
  rcases h with rfl | ⟨b, off, rfl, hl, hc⟩
  · exact .inl rfl
  · refine .inr ⟨b, off, rfl, Nat.lt_of_lt_of_le hl hb.size, fun i p hi => ?_⟩
    obtain ⟨h0, h1, h2, h3, h4, h5⟩ := hc i p hi
    exact ⟨(hb.cell (p := ⟨b, _, none⟩) hl).trans h0, (hb.cell (p := ⟨b, _, none⟩) hl).trans h1, (hb.cell (p := ⟨b, _, none⟩) hl).trans h2,
      (hb.cell (p := ⟨b, _, none⟩) hl).trans h3, (hb.cell (p := ⟨b, _, none⟩) hl).trans h4, (hb.cell (p := ⟨b, _, none⟩) hl).trans h5⟩

/-- The text of picks, as it grows. -/
def grow (l : List Pk) : List UInt8 := glue 32 (l.map textP)

theorem glue_snoc (c : UInt8) : ∀ (l : List (List UInt8)) (x : List UInt8), l ≠ [] → glue c (l ++ [x]) = glue c l ++ (c :: x)
  | [], _, h => absurd rfl h
  | [y], x, _ => by simp [glue]
  | y :: z :: r, x, _ => by
    have := glue_snoc c (z :: r) x (by simp)
    simp only [List.cons_append, glue] at this ⊢
    rw [this]; simp

theorem grow_snoc (l : List Pk) (p : Pk) (h : l ≠ []) : grow (l ++ [p]) = grow l ++ (32 :: textP p) := by
  unfold grow; rw [List.map_append]; exact glue_snoc 32 _ _ (by simpa using h)

theorem textP_le (p : Pk) (hp : PkIn p) : (textP p).length ≤ 106 := by
  have hd : ∀ n : Int, In64 n → (46 :: Lib.itoa n).length ≤ 21 := fun n h => by have := itoa_le n h; simp; omega
  have a := hd _ hp.rank; have b := hd _ hp.call; have c := hd _ hp.fr; have d := hd _ hp.sq; have e := hd _ hp.val
  simp only [List.length_cons] at a b c d e
  unfold textP dots
  split
  · simp; omega
  · split
    · simp; omega
    · split
      · simp; omega
      · simp

theorem glue_le (c : UInt8) (m : Nat) : ∀ (l : List (List UInt8)), (∀ x ∈ l, x.length ≤ m) → (glue c l).length ≤ l.length * (m + 1)
  | [], _ => by simp [glue]
  | [x], h => by have := h x (by simp); simp [glue]; omega
  | x :: y :: r, h => by
    have h1 := h x (by simp)
    have h2 := glue_le c m (y :: r) (fun z hz => h z (by simp at hz ⊢; exact .inr hz))
    simp only [glue, List.length_append, List.length_cons] at h2 ⊢
    rw [Nat.succ_mul]; omega

theorem grow_le (l : List Pk) (hl : l.length ≤ 3000) (h : ∀ p ∈ l, PkIn p) : (grow l).length ≤ 321000 := by
  have := glue_le 32 106 (l.map textP) (by intro x hx; obtain ⟨p, hp, rfl⟩ := List.mem_map.1 hx; exact textP_le p (h p hp))
  unfold grow
  simp only [List.length_map] at this
  omega

theorem textL_all {l : List Pk} (hne : l ≠ []) (h : ∀ p ∈ l, textP p ≠ []) : textL l = some (grow l) := by
  unfold textL grow
  rw [if_neg hne, if_pos (by simpa using h)]
theorem textL_none {l : List Pk} (hne : l ≠ []) {p : Pk} (hp : p ∈ l) (h : textP p = []) : textL l = none := by
  unfold textL
  rw [if_neg hne, if_neg]
  intro ha
  have := List.all_eq_true.1 ha p hp
  simp [h] at this

theorem take_succ_get {l : List Pk} {k : Nat} {p : Pk} (h : l[k]? = some p) : l.take (k + 1) = l.take k ++ [p] := by
  rw [List.take_add_one, h]; rfl

/-- What the document's text of a schedule comes to. -/
def textOut (l : List Pk) (bad : Int) : Value := match textL l with
  | some t => .tuple #[.string (bs t), .int .i64 0]
  | none => .tuple #[.string (bs []), .int .i64 bad]

theorem textOut_all {l : List Pk} (hne : l ≠ []) (h : ∀ p ∈ l, textP p ≠ []) (b : Int) : textOut l b = .tuple #[.string (bs (grow l)), .int .i64 0] := by
  unfold textOut; rw [textL_all hne h]
theorem textOut_none {l : List Pk} (hne : l ≠ []) {p : Pk} (hp : p ∈ l) (h : textP p = []) (b : Int) : textOut l b = .tuple #[.string (bs []), .int .i64 b] := by
  unfold textOut; rw [textL_none hne hp h]

theorem bs_yes : (bs []).toList.isEmpty = true := by rw [ByteArray.toList_eq]; rfl
theorem bs_no {l : List UInt8} (h : l ≠ []) : (bs l).toList.isEmpty = false := by
  rw [ByteArray.toList_eq]; unfold bs
  cases l with
  | nil => exact absurd rfl h
  | cons _ _ => rfl

theorem grow_first {l : List Pk} {p : Pk} {k : Nat} (h : l.take (k + 1) = l.take k ++ [p]) (hk : k = 0) : bs (grow (l.take (k + 1))) = bs (grow (l.take k)) ++ bs (textP p) := by
  subst hk; rw [h, ← bs_app]; rfl
theorem grow_next {l : List Pk} {p : Pk} {k : Nat} (h : l.take (k + 1) = l.take k ++ [p]) (hk : 0 < k) (hl : k < l.length) : bs (grow (l.take (k + 1))) = bs (grow (l.take k)) ++ bs [32] ++ bs (textP p) := by
  rw [h, grow_snoc _ _ (by intro e; have := congrArg List.length e; rw [List.length_take, List.length_nil] at this; omega), ← bs_app, ← bs_app]; simp

set_option maxRecDepth 100000 in
set_option maxHeartbeats 1000000 in
theorem rtext_t (a : Option Addr) (l : List Pk) (cap : Nat) (w : World) (hr : PkRow w a l) (hin : ∀ p ∈ l, PkIn p) (hl : l.length ≤ 3000) (hc : l.length ≤ cap) (hne : l ≠ []) :
    Calls Tryd.prog 5 #[.slice a l.length cap] w fun e w' => e = .returned (textOut l 2) ∧ Below w.heap.size w w' := by
  have hlen : 0 < l.length := List.length_pos_iff.2 hne
  have h0 : ((l.length : Int) == 0) = false := by rw [beq_eq_false_iff_ne]; omega
  go_enter Tryd.func5, Tryd.ntmps5
  go_wp2
  go_loopw [4, 5] (fun s i wr => ∃ k : Nat, k ≤ l.length ∧ i = .int .i64 k ∧ s = .string (bs (grow (l.take k))) ∧ Below w.heap.size w wr ∧ (∀ p ∈ l.take k, textP p ≠ [])) (fun _ i _ => l.length - (intOf i).toNat)
  case atStart => exact ⟨0, by omega, rfl, rfl, Below.refl _ _, by simp⟩
  case round =>
    obtain ⟨k, hk, rfl, rfl, hB, hall⟩ := hrel
    by_cases hlt : k < l.length
    · have hr2 := hr.below hB
      have hi := List.getElem?_eq_getElem hlt
      obtain ⟨p, hp⟩ : ∃ p, p = l[k] := ⟨_, rfl⟩
      rw [← hp] at hi
      rcases hr2 with rfl | ⟨b, off, rfl, hbl, hcell⟩
      · exact absurd rfl hne
      obtain ⟨c0, c1, c2, c3, c4, c5⟩ := hcell k p hi
      have hpi : PkIn p := hin p (List.mem_of_getElem? hi)
      have hmem : p ∈ l := List.mem_of_getElem? hi
      have hsz : (bs (grow (l.take k))).size ≤ 321000 := by rw [bs_size]; exact grow_le _ (by simp; omega) (fun q hq => hin q (List.mem_of_mem_take hq))
      have hsz2 : (bs (textP p)).size ≤ 106 := by rw [bs_size]; exact textP_le p hpi
      have Ht := Lib.hid (take_succ_get hi)
      clear hcell hi hp
      by_cases ht : textP p = []
      · have Hs := Lib.hid (textOut_none hne hmem ht 2)
        have hte : (bs (textP p)).toList.isEmpty = true := by rw [ht]; exact bs_yes
        clear ht
        go_wp2_with (go_at_call 12; refine (one_any p _ hpi).mono ?_; rintro e w1 ⟨rfl, hb1⟩)
        go_ret2
        exact ⟨by rw [Hs.out]; rfl, hB.trans (hb1.mono hB.size)⟩
      · have hte : (bs (textP p)).toList.isEmpty = false := bs_no ht
        have hall2 : ∀ q ∈ l.take (k + 1), textP q ≠ [] := by
          rw [Ht.out]; intro q hq
          rcases List.mem_append.1 hq with h | h
          · exact hall q h
          · rw [List.mem_singleton.1 h]; exact ht
        have Hall := Lib.hid hall2
        clear ht hall hall2
        by_cases hk0 : 0 < k
        · have Hg := Lib.hid (grow_next Ht.out hk0 hlt)
          go_wp2_with (go_at_call 12; refine (one_any p _ hpi).mono ?_; rintro e w1 ⟨rfl, hb1⟩)
          go_roundw
          case rel => exact ⟨k + 1, by omega, by go_num, by rw [Hg.out]; rfl, hB.trans (hb1.mono hB.size), Hall.out⟩
          case measure => simp [intOf]; omega
        · have Hg := Lib.hid (grow_first Ht.out (show k = 0 by omega))
          go_wp2_with (go_at_call 12; refine (one_any p _ hpi).mono ?_; rintro e w1 ⟨rfl, hb1⟩)
          go_roundw
          case rel => exact ⟨k + 1, by omega, by go_num, by rw [Hg.out], hB.trans (hb1.mono hB.size), Hall.out⟩
          case measure => simp [intOf]; omega
    · obtain rfl : k = l.length := by omega
      rw [List.take_length] at hall ⊢
      have Hs := Lib.hid (textOut_all hne hall 2)
      go_wp2
      go_ret2
      exact ⟨by rw [Hs.out]; rfl, hB⟩

set_option maxRecDepth 100000 in
theorem rtext_nil (a : Option Addr) (cap : Nat) (w : World) :
    Calls Tryd.prog 5 #[.slice a 0 cap] w fun e w' => e = .returned (textOut [] 2) ∧ Below w.heap.size w w' := by
  have Hs := Lib.hid (show textOut [] 2 = .tuple #[.string (bs [45]), .int .i64 0] from rfl)
  go_enter Tryd.func5, Tryd.ntmps5
  go_wp2
  go_ret2
  exact ⟨by rw [Hs.out]; rfl, Below.refl _ _⟩

/-- THE DOCUMENT's TEXT OF A SCHEDULE. -/
theorem rtext_any (a : Option Addr) (l : List Pk) (cap : Nat) (w : World) (hr : PkRow w a l) (hin : ∀ p ∈ l, PkIn p) (hl : l.length ≤ 3000) (hc : l.length ≤ cap) :
    Calls Tryd.prog 5 #[.slice a l.length cap] w fun e w' => e = .returned (textOut l 2) ∧ Below w.heap.size w w' := by
  by_cases h : l = []
  · subst h; exact rtext_nil a cap w
  · exact rtext_t a l cap w hr hin hl hc h
end Go.Proofs.YtlohcmnckfndlaaDoor
