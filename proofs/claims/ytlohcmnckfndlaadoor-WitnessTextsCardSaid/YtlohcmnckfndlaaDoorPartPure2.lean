/-
  A part of the proof of WitnessTexts: contracts of functions that the law reaches.
-/
/-
  Plain facts, no program: the text of a pick and of a schedule; the program's reading of a text and the document's are one.
-/
import Derived.Test.YtlohcmnckfndlaaDoorPartPure1
namespace Go.Proofs.YtlohcmnckfndlaaDoor
open Go Go.RowKit

/-- A pick. -/
structure Pk where
  kind : Int
  rank : Int
  call : Int
  fr : Int
  sq : Int
  val : Int
  deriving DecidableEq

/-- Numbers, each with a dot ahead. -/
def dots (l : List Int) : List UInt8 := l.flatMap fun n => 46 :: Lib.itoa n

/-- A pick's text; none of one that has none. -/
def textP (p : Pk) : List UInt8 :=
  if p.kind = 1 ∧ p.call = 0 ∧ p.fr = 0 ∧ p.sq = 0 ∧ p.val = 0 then 103 :: dots [p.rank]
  else if p.kind = 2 ∧ p.val = 0 then 109 :: dots [p.rank, p.call, p.fr, p.sq]
  else if p.kind = 3 then 97 :: dots [p.rank, p.call, p.val, p.fr, p.sq]
  else []

/-- A schedule's text. -/
def textL (l : List Pk) : Option (List UInt8) :=
  if l = [] then some [45] else if l.all (fun p => decide (textP p ≠ [])) = true then some (glue 32 (l.map textP)) else none

/-- The i-th number behind a text's first part, as the program reads it. -/
def numAt (w : List UInt8) (i : Nat) : Int := match (parts 46 w)[i + 1]? with
  | some x => atoiVal x
  | none => 0

/-- The program's reading of a pick. -/
def pickP (w : List UInt8) : Pk :=
  if (parts 46 w)[0]? = some [103] then ⟨1, numAt w 0, 0, 0, 0, 0⟩
  else if (parts 46 w)[0]? = some [109] then ⟨2, numAt w 0, numAt w 1, numAt w 2, numAt w 3, 0⟩
  else if (parts 46 w)[0]? = some [97] then ⟨3, numAt w 0, numAt w 1, numAt w 3, numAt w 4, numAt w 2⟩
  else ⟨0, 0, 0, 0, 0, 0⟩

/-- The program's reading of a schedule, ahead of its look. -/
def rawP (s : List UInt8) : List Pk := if s = [45] then [] else (parts 32 s).map pickP

/-- The program's reading of a schedule. -/
def parseP (s : List UInt8) : Option (List Pk) := if textL (rawP s) = some s then some (rawP s) else none

/-- The document's reading of numbers. -/
def numsR : List (List UInt8) → Option (List Int)
  | [] => some []
  | w :: r => match numR w with
    | none => none
    | some x => match numsR r with
      | none => none
      | some l => some (x :: l)

/-- The document's reading of a pick. -/
def pickR (w : List UInt8) : Option Pk :=
  match numsR (parts 46 w).tail with
  | none => none
  | some n =>
    if (parts 46 w)[0]? = some [103] ∧ n.length = 1 then some ⟨1, n.getD 0 0, 0, 0, 0, 0⟩
    else if (parts 46 w)[0]? = some [109] ∧ n.length = 4 then some ⟨2, n.getD 0 0, n.getD 1 0, n.getD 2 0, n.getD 3 0, 0⟩
    else if (parts 46 w)[0]? = some [97] ∧ n.length = 5 then some ⟨3, n.getD 0 0, n.getD 1 0, n.getD 3 0, n.getD 4 0, n.getD 2 0⟩
    else none

/-- The document's reading of picks. -/
def picksR : List (List UInt8) → Option (List Pk)
  | [] => some []
  | w :: r => match pickR w with
    | none => none
    | some x => match picksR r with
      | none => none
      | some l => some (x :: l)

/-- The document's reading of a schedule. -/
def parseR (s : List UInt8) : Option (List Pk) := if s = [45] then some [] else picksR (parts 32 s)

/-! ### one pick -/

theorem numsR_some : ∀ {l : List (List UInt8)} {n : List Int}, numsR l = some n → l = n.map Lib.itoa ∧ ∀ x ∈ n, In64 x
  | [], n, h => by simp [numsR] at h; subst h; simp
  | w :: r, n, h => by
    simp only [numsR] at h
    cases hw : numR w with
    | none => rw [hw] at h; cases h
    | some x =>
      rw [hw] at h
      cases hr : numsR r with
      | none => rw [hr] at h; cases h
      | some l =>
        rw [hr] at h; cases h
        obtain ⟨e, hx⟩ := numR_some hw
        obtain ⟨e2, hl⟩ := numsR_some hr
        refine ⟨by rw [List.map_cons, ← e, ← e2], fun y hy => ?_⟩
        rcases List.mem_cons.1 hy with rfl | h
        · exact hx
        · exact hl y h

theorem numsR_itoa : ∀ (n : List Int), (∀ x ∈ n, In64 x) → numsR (n.map Lib.itoa) = some n
  | [], _ => rfl
  | x :: r, h => by
    simp only [List.map_cons, numsR, numR_itoa x (h x (by simp)), numsR_itoa r (fun y hy => h y (by simp [hy]))]

theorem dots_glue (c : UInt8) : ∀ (n : List Int), c :: dots n = glue 46 ([c] :: n.map Lib.itoa)
  | [] => rfl
  | [x] => by simp [dots, glue]
  | x :: y :: r => by
    have := dots_glue 0 (y :: r)
    simp only [dots, List.flatMap_cons, List.map_cons, glue, List.cons_append, List.nil_append, List.cons.injEq, true_and] at this ⊢
    rw [← this]

theorem free46 {c : UInt8} (hc : c ≠ 46) (n : List Int) : ∀ x ∈ [c] :: n.map Lib.itoa, (46 : UInt8) ∉ x := by
  intro x hx
  rcases List.mem_cons.1 hx with rfl | h
  · simpa using Ne.symm hc
  · obtain ⟨y, _, rfl⟩ := List.mem_map.1 h
    exact itoa_no y 46 (by decide) (by decide)

theorem parts_dots {c : UInt8} (hc : c ≠ 46) (n : List Int) : parts 46 (c :: dots n) = [c] :: n.map Lib.itoa := by
  rw [dots_glue]; exact parts_glue 46 _ (by simp) (free46 hc n)

theorem numAt_dots {c : UInt8} (hc : c ≠ 46) (n : List Int) (hn : ∀ x ∈ n, In64 x) (i : Nat) (hi : i < n.length) : numAt (c :: dots n) i = n.getD i 0 := by
  unfold numAt
  rw [parts_dots hc n]
  have e : (([c] : List UInt8) :: n.map Lib.itoa)[i + 1]? = some (Lib.itoa (n.getD i 0)) := by
    simp [List.getElem?_map, List.getElem?_eq_getElem hi]
  rw [e]
  simp only []
  exact atoiVal_itoa _ (hn _ (by rw [List.getD_eq_getElem?_getD, List.getElem?_eq_getElem hi]; simp))

/-- What the document reads is the program's, and has that text. -/
theorem pickR_some {w : List UInt8} {p : Pk} (h : pickR w = some p) : textP p = w ∧ w ≠ [] ∧ pickP w = p := by
  unfold pickR at h
  cases hn : numsR (parts 46 w).tail with
  | none => rw [hn] at h; cases h
  | some n =>
    rw [hn] at h
    obtain ⟨e, hin⟩ := numsR_some hn
    have hw := glue_parts 46 w
    have key : ∀ c : UInt8, c ≠ 46 → (parts 46 w)[0]? = some [c] → w = c :: dots n := by
      intro c _ hc
      cases hp : parts 46 w with
      | nil => exact absurd hp (parts_ne 46 w)
      | cons x xs =>
        rw [hp] at hc e hw
        simp at hc e
        rw [dots_glue, ← hw, hc, e]
    dsimp only at h
    split at h
    · rename_i hc
      cases h
      have e1 := key 103 (by decide) hc.1
      obtain ⟨a, rfl⟩ : ∃ a, n = [a] := by
        match n, hc.2 with
        | [a], _ => exact ⟨a, rfl⟩
      have n0 := numAt_dots (c := 103) (by decide) [a] hin 0 (by simp)
      refine ⟨by rw [e1]; simp [textP], by rw [e1]; simp, ?_⟩
      unfold pickP
      rw [if_pos hc.1, e1, n0]
    · split at h
      · rename_i hc
        cases h
        have e1 := key 109 (by decide) hc.1
        obtain ⟨a, b, c, d, rfl⟩ : ∃ a b c d, n = [a, b, c, d] := by
          match n, hc.2 with
          | [a, b, c, d], _ => exact ⟨a, b, c, d, rfl⟩
        have n0 := numAt_dots (c := 109) (by decide) [a, b, c, d] hin 0 (by simp)
        have n1 := numAt_dots (c := 109) (by decide) [a, b, c, d] hin 1 (by simp)
        have n2 := numAt_dots (c := 109) (by decide) [a, b, c, d] hin 2 (by simp)
        have n3 := numAt_dots (c := 109) (by decide) [a, b, c, d] hin 3 (by simp)
        refine ⟨by rw [e1]; simp [textP], by rw [e1]; simp, ?_⟩
        unfold pickP
        rw [if_neg (by rw [hc.1]; decide), if_pos hc.1, e1, n0, n1, n2, n3]
      · split at h
        · rename_i hc
          cases h
          have e1 := key 97 (by decide) hc.1
          obtain ⟨a, b, c, d, f, rfl⟩ : ∃ a b c d f, n = [a, b, c, d, f] := by
            match n, hc.2 with
            | [a, b, c, d, f], _ => exact ⟨a, b, c, d, f, rfl⟩
          have n0 := numAt_dots (c := 97) (by decide) [a, b, c, d, f] hin 0 (by simp)
          have n1 := numAt_dots (c := 97) (by decide) [a, b, c, d, f] hin 1 (by simp)
          have n2 := numAt_dots (c := 97) (by decide) [a, b, c, d, f] hin 2 (by simp)
          have n3 := numAt_dots (c := 97) (by decide) [a, b, c, d, f] hin 3 (by simp)
          have n4 := numAt_dots (c := 97) (by decide) [a, b, c, d, f] hin 4 (by simp)
          refine ⟨by rw [e1]; simp [textP], by rw [e1]; simp, ?_⟩
          unfold pickP
          rw [if_neg (by rw [hc.1]; decide), if_neg (by rw [hc.1]; decide), if_pos hc.1, e1, n0, n1, n2, n3, n4]
        · cases h

theorem numAt_in (w : List UInt8) (i : Nat) : In64 (numAt w i) := by
  unfold numAt
  split
  · exact atoiVal_in _
  · constructor <;> omega

/-- What the program reads, and writes likewise, the document reads. -/
theorem pickR_of {w : List UInt8} (h : textP (pickP w) = w) (hne : w ≠ []) : pickR w = some (pickP w) := by
  have fin : ∀ (c : UInt8) (n : List Int), c ≠ 46 → (∀ x ∈ n, In64 x) → w = c :: dots n → numsR (parts 46 w).tail = some n ∧ (parts 46 w)[0]? = some [c] := by
    intro c n hc hn e
    rw [e, parts_dots hc n]
    exact ⟨numsR_itoa n hn, rfl⟩
  unfold pickP at h ⊢
  split at h
  · rename_i h0
    simp only [h0, if_true]
    have e : w = 103 :: dots [numAt w 0] := h.symm.trans (by simp [textP])
    obtain ⟨e1, e2⟩ := fin 103 [numAt w 0] (by decide) (by simp [numAt_in]) e
    unfold pickR
    rw [e1]
    simp [h0]
  · split at h
    · rename_i h1 h0
      rw [if_neg h1, if_pos h0]
      have e : w = 109 :: dots [numAt w 0, numAt w 1, numAt w 2, numAt w 3] := h.symm.trans (by simp [textP])
      obtain ⟨e1, e2⟩ := fin 109 [numAt w 0, numAt w 1, numAt w 2, numAt w 3] (by decide) (by simp [numAt_in]) e
      unfold pickR
      rw [e1]
      simp [h0]
    · split at h
      · rename_i h2 h1 h0
        rw [if_neg h2, if_neg h1, if_pos h0]
        have e : w = 97 :: dots [numAt w 0, numAt w 1, numAt w 2, numAt w 3, numAt w 4] := h.symm.trans (by simp [textP])
        obtain ⟨e1, e2⟩ := fin 97 [numAt w 0, numAt w 1, numAt w 2, numAt w 3, numAt w 4] (by decide) (by simp [numAt_in]) e
        unfold pickR
        rw [e1]
        simp [h0]
      · simp [textP] at h
        exact absurd h hne

theorem textP_free (p : Pk) (c : UInt8) (h0 : c ≠ 45) (h1 : c.toNat < 46) : c ∉ textP p := by
  have hd : ∀ n : List Int, c ∉ dots n := by
    intro n hm
    obtain ⟨x, _, hx⟩ := List.mem_flatMap.1 hm
    rcases List.mem_cons.1 hx with rfl | h
    · exact absurd h1 (by decide)
    · exact itoa_no x c h0 (by omega) h
  have hl : ∀ d : UInt8, 97 ≤ d.toNat → c ≠ d := fun d hd e => by subst e; omega
  unfold textP
  split
  · simp only [List.mem_cons, not_or]; exact ⟨hl 103 (by decide), hd _⟩
  · split
    · simp only [List.mem_cons, not_or]; exact ⟨hl 109 (by decide), hd _⟩
    · split
      · simp only [List.mem_cons, not_or]; exact ⟨hl 97 (by decide), hd _⟩
      · simp

/-! ### a schedule -/

theorem picksR_some : ∀ {l : List (List UInt8)} {ps : List Pk}, picksR l = some ps → l.map pickP = ps ∧ ps.map textP = l ∧ ∀ p ∈ ps, textP p ≠ []
  | [], ps, h => by simp [picksR] at h; subst h; simp
  | w :: r, ps, h => by
    simp only [picksR] at h
    cases hw : pickR w with
    | none => rw [hw] at h; cases h
    | some x =>
      rw [hw] at h
      cases hr : picksR r with
      | none => rw [hr] at h; cases h
      | some l =>
        rw [hr] at h; cases h
        obtain ⟨e1, e2, e3⟩ := pickR_some hw
        obtain ⟨f1, f2, f3⟩ := picksR_some hr
        refine ⟨by rw [List.map_cons, e3, f1], by rw [List.map_cons, e1, f2], fun p hp => ?_⟩
        rcases List.mem_cons.1 hp with rfl | h
        · rw [e1]; exact e2
        · exact f3 p h

theorem picksR_of : ∀ (l : List (List UInt8)), (∀ w ∈ l, textP (pickP w) = w ∧ w ≠ []) → picksR l = some (l.map pickP)
  | [], _ => rfl
  | w :: r, h => by
    have h0 := h w (by simp)
    simp only [picksR, pickR_of h0.1 h0.2, picksR_of r (fun x hx => h x (by simp [hx])), List.map_cons]

/-- THE TWO READINGS ARE ONE. -/
theorem parse_eq (s : List UInt8) : parseP s = parseR s := by
  unfold parseP parseR
  by_cases hs : s = [45]
  · have : rawP s = [] := by unfold rawP; rw [if_pos hs]
    rw [this, if_pos hs, hs]; rfl
  · rw [if_neg hs]
    have hraw : rawP s = (parts 32 s).map pickP := by unfold rawP; rw [if_neg hs]
    have hne : (parts 32 s).map pickP ≠ [] := by simp [parts_ne]
    cases hr : picksR (parts 32 s) with
    | some ps =>
      obtain ⟨e1, e2, e3⟩ := picksR_some hr
      rw [hraw, e1, if_pos]
      unfold textL
      rw [if_neg (by rw [← e1]; exact hne), if_pos (by simpa using e3), e2, glue_parts]
    | none =>
      rw [if_neg]
      intro ht
      rw [hraw] at ht
      unfold textL at ht
      rw [if_neg hne] at ht
      split at ht
      · rename_i hall
        have hg := Option.some.inj ht
        have hfree : ∀ x ∈ ((parts 32 s).map pickP).map textP, (32 : UInt8) ∉ x := by
          intro x hx
          obtain ⟨p, _, rfl⟩ := List.mem_map.1 hx
          exact textP_free p 32 (by decide) (by decide)
        have hp := parts_glue 32 _ (by simp [parts_ne]) hfree
        rw [hg] at hp
        have hall' : ∀ w ∈ parts 32 s, textP (pickP w) = w ∧ w ≠ [] := by
          intro w hw
          obtain ⟨i, hi, rfl⟩ := List.mem_iff_getElem.1 hw
          have hi2 : (((parts 32 s).map pickP).map textP)[i]? = (parts 32 s)[i]? := by rw [← hp]
          have hx : textP (pickP (parts 32 s)[i]) = (parts 32 s)[i] := by
            simpa [List.getElem?_eq_getElem hi] using hi2
          refine ⟨hx, ?_⟩
          have := List.all_eq_true.1 hall (pickP (parts 32 s)[i]) (List.mem_map.2 ⟨_, hw, rfl⟩)
          rw [← hx]
          simpa using this
        rw [picksR_of _ hall'] at hr
        cases hr
      · cases ht
end Go.Proofs.YtlohcmnckfndlaaDoor
