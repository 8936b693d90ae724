/-
  parts of a text, numbers and their digits: the plain words of the law
-/
/-
  Plain facts, no program: texts of picks, splitting at a byte, decimal numerals, and that the two readings of a schedule's text agree.
-/
import Derived.Lib.SplitLaws
import Derived.Lib.IndexBytes
import Derived.Lib.Join
import Derived.Lib.ItoaNum
import Derived.Lib.AtoiAll
import Derived.IntWalk
namespace Go.Proofs.YtlohcmnckfndlaaDoor
open Go Go.RowKit

/-! ### splitting at one byte -/

/-- A text's parts, up to each byte c. -/
def parts (c : UInt8) : List UInt8 → List (List UInt8)
  | [] => [[]]
  | b :: r => if b = c then [] :: parts c r else
    match parts c r with
    | [] => [[b]]
    | x :: xs => (b :: x) :: xs

theorem parts_ne (c : UInt8) : ∀ s, parts c s ≠ []
  | [] => by simp [parts]
  | b :: r => by
    unfold parts
    split
    · simp
    · split <;> simp

/-- What parts are put together with c between. -/
def glue (c : UInt8) : List (List UInt8) → List UInt8
  | [] => []
  | [x] => x
  | x :: y :: r => x ++ c :: glue c (y :: r)

theorem glue_parts (c : UInt8) : ∀ s, glue c (parts c s) = s
  | [] => rfl
  | b :: r => by
    have ih := glue_parts c r
    have hne := parts_ne c r
    unfold parts
    split
    · rename_i h
      subst h
      cases hp : parts b r with
      | nil => exact absurd hp hne
      | cons x xs => rw [hp] at ih; simp [glue, ih]
    · cases hp : parts c r with
      | nil => exact absurd hp hne
      | cons x xs =>
        rw [hp] at ih
        cases xs with
        | nil => simp [glue] at ih ⊢; exact ih
        | cons y ys => simp [glue] at ih ⊢; exact ih

theorem parts_free (c : UInt8) : ∀ x, c ∉ x → parts c x = [x]
  | [], _ => rfl
  | b :: r, h => by
    have hb : b ≠ c := fun e => h (by simp [e])
    have hr : c ∉ r := fun e => h (by simp [e])
    simp [parts, hb, parts_free c r hr]

theorem parts_app (c : UInt8) (s : List UInt8) : ∀ x, c ∉ x → parts c (x ++ c :: s) = x :: parts c s
  | [], _ => by simp [parts]
  | b :: r, h => by
    have hb : b ≠ c := fun e => h (by simp [e])
    have hr : c ∉ r := fun e => h (by simp [e])
    simp [parts, hb, parts_app c s r hr]

theorem parts_glue (c : UInt8) : ∀ l : List (List UInt8), l ≠ [] → (∀ x ∈ l, c ∉ x) → parts c (glue c l) = l
  | [], h, _ => absurd rfl h
  | [x], _, h => parts_free c x (h x (by simp))
  | x :: y :: r, _, h => by
    have := parts_glue c (y :: r) (by simp) (fun z hz => h z (by simp at hz ⊢; exact .inr hz))
    simp only [glue]
    rw [parts_app c _ x (h x (by simp)), this]

theorem parts_mem (c : UInt8) : ∀ s, ∀ x ∈ parts c s, c ∉ x
  | [], x, hx => by simp [parts] at hx; simp [hx]
  | b :: r, x, hx => by
    have ih := parts_mem c r
    unfold parts at hx
    split at hx
    · rcases List.mem_cons.1 hx with rfl | h
      · simp
      · exact ih x h
    · rename_i hb
      cases hp : parts c r with
      | nil => exact absurd hp (parts_ne c r)
      | cons y ys =>
        rw [hp] at hx ih
        rcases List.mem_cons.1 hx with rfl | h
        · have := ih y (by simp)
          simp only [List.mem_cons, not_or]
          exact ⟨fun e => hb e.symm, this⟩
        · exact ih x (by simp [h])

theorem parts_length (c : UInt8) : ∀ s, (parts c s).length ≤ s.length + 1
  | [] => by simp [parts]
  | b :: r => by
    have ih := parts_length c r
    unfold parts
    split
    · simp; omega
    · cases hp : parts c r with
      | nil => exact absurd hp (parts_ne c r)
      | cons x xs => rw [hp] at ih; simp at ih ⊢; omega

theorem index_free (c : UInt8) : ∀ x, c ∉ x → Lib.index x [c] = -1
  | [], _ => by simp [Lib.index]
  | b :: r, h => by
    have hb : b ≠ c := fun e => h (by simp [e])
    have hr : c ∉ r := fun e => h (by simp [e])
    simp [Lib.index, List.isPrefixOf, Ne.symm hb, index_free c r hr]

theorem index_app (c : UInt8) (s : List UInt8) : ∀ x, c ∉ x → Lib.index (x ++ c :: s) [c] = x.length
  | [], _ => by simp [Lib.index, List.isPrefixOf]
  | b :: r, h => by
    have hb : b ≠ c := fun e => h (by simp [e])
    have hr : c ∉ r := fun e => h (by simp [e])
    have ih := index_app c s r hr
    simp only [List.cons_append, Lib.index, ih]
    have : ([c].isPrefixOf (b :: (r ++ c :: s))) = false := by simp [List.isPrefixOf, Ne.symm hb]
    rw [this]
    have h2 : ((r.length : Int) == -1) = false := by rw [beq_eq_false_iff_ne]; omega
    simp [h2]

theorem split_one (c : UInt8) : ∀ (k : Nat) (s : List UInt8), s.count c = k → Lib.splitK [c] 0 k s = parts c s
  | 0, s, h => by
    have hm : c ∉ s := by rw [List.count_eq_zero] at h; exact h
    rw [parts_free c s hm]; rfl
  | k + 1, s, h => by
    have hm : c ∈ s := by rw [← List.count_pos_iff]; omega
    obtain ⟨x, t, rfl, hx⟩ := List.eq_append_cons_of_mem hm
    have hc : t.count c = k := by
      rw [List.count_append, List.count_cons, List.count_eq_zero.2 hx] at h; simp at h; omega
    have hi := index_app c t x hx
    have h2 : ((x.length : Int) == -1) = false := by rw [beq_eq_false_iff_ne]; omega
    rw [parts_app c t x hx, ← split_one c k t hc, Lib.splitK, hi, h2]
    simp

/-- strings.Split at a separator of one byte. -/
theorem split_parts (c : UInt8) (s : List UInt8) : Lib.split s [c] = parts c s := by
  rw [Lib.split, Lib.count_one]; exact split_one c _ s rfl

theorem join_glue (c : UInt8) : ∀ l : List (List UInt8), Lib.join l [c] = glue c l
  | [] => rfl
  | [x] => Lib.join_one x [c]
  | x :: y :: r => by
    have ih := join_glue c (y :: r)
    unfold Lib.join at ih ⊢
    simp only [glue, ← ih]
    simp [List.intercalate, List.intersperse]

/-! ### decimal numerals -/

/-- A number of 64 bits. -/
def In64 (n : Int) : Prop := -9223372036854775808 ≤ n ∧ n ≤ 9223372036854775807

theorem digit_byte {d : Nat} (h : d < 10) : (UInt8.ofNat (48 + d)).toNat = 48 + d := by
  rw [UInt8.toNat_ofNat']; omega

/-- Every byte of a numeral is a digit. -/
theorem decDigits_digits : ∀ (u : Nat) (b : UInt8), b ∈ Lib.decDigits u → 48 ≤ b.toNat ∧ b.toNat ≤ 57 := by
  intro u
  induction u using Nat.strongRecOn with
  | _ u ih =>
    intro b hb
    rw [Lib.decDigits] at hb
    split at hb
    · have hd := digit_byte (d := u) (by assumption)
      rw [List.mem_singleton.1 hb, hd]; omega
    · rename_i h
      rcases List.mem_append.1 hb with h1 | h1
      · exact ih (u / 10) (by omega) b h1
      · have hd := digit_byte (d := u % 10) (by omega)
        rw [List.mem_singleton.1 h1, hd]; omega

theorem decDigits_ne (u : Nat) : Lib.decDigits u ≠ [] := by
  rw [Lib.decDigits]; split <;> simp

theorem itoa_bytes (n : Int) (b : UInt8) (h : b ∈ Lib.itoa n) : b = 45 ∨ 48 ≤ b.toNat ∧ b.toNat ≤ 57 := by
  unfold Lib.itoa at h
  split at h
  · rcases List.mem_cons.1 h with h | h
    · exact .inl h
    · exact .inr (decDigits_digits _ b h)
  · exact .inr (decDigits_digits _ b h)

theorem itoa_ne (n : Int) : Lib.itoa n ≠ [] := by
  unfold Lib.itoa; split
  · simp
  · exact decDigits_ne _

theorem itoa_no (n : Int) (c : UInt8) (h : c ≠ 45) (h2 : c.toNat < 48) : c ∉ Lib.itoa n := fun hm => by
  rcases itoa_bytes n c hm with e | e
  · exact h e
  · omega

/-- What digits spell, from the left. -/
theorem parse_digits : ∀ (u acc : Nat) , (∀ r, acc = 0 → u < 18446744073709551616 → Lib.parseUint10 0 (Lib.decDigits u ++ r) = Lib.parseUint10 u r) := by
  intro u
  induction u using Nat.strongRecOn with
  | _ u ih =>
    intro acc r _ hu
    rw [Lib.decDigits]
    split
    · rename_i h
      simp only [List.cons_append, List.nil_append, Lib.parseUint10]
      rw [digit_byte h, if_pos (by omega), if_neg (by omega), if_neg (by omega)]
      congr 1; omega
    · rename_i h
      rw [List.append_assoc, ih (u / 10) (by omega) 0 _ rfl (by omega)]
      simp only [List.cons_append, List.nil_append, Lib.parseUint10]
      rw [digit_byte (by omega), if_pos (by omega), if_neg (by omega), if_neg (by omega)]
      congr 1; omega

theorem parseMag_digits (u : Nat) (h : u < 18446744073709551616) : Lib.parseMag (Lib.decDigits u) = .ok u := by
  have := parse_digits u 0 [] rfl h
  rw [List.append_nil] at this
  rw [Lib.parseMag, if_neg (decDigits_ne u), this]; rfl

theorem atoi_neg (r : List UInt8) (u : Nat) (h : Lib.parseMag r = .ok u) (hu : u ≤ 9223372036854775808) : Lib.atoiAll (45 :: r) = .ok (-(u : Int)) := by
  have e : (45 : UInt8).toNat = 45 := rfl
  unfold Lib.atoiAll
  simp only [e, or_true, if_true, h, not_true, false_and, if_false, true_and]
  rw [if_neg (by omega)]

theorem atoi_pos (b : UInt8) (r : List UInt8) (u : Nat) (hb : b.toNat ≠ 43 ∧ b.toNat ≠ 45) (h : Lib.parseMag (b :: r) = .ok u) (hu : u < 9223372036854775808) : Lib.atoiAll (b :: r) = .ok (u : Int) := by
  unfold Lib.atoiAll
  simp only [hb.1, hb.2, or_false, if_false, h, not_false_eq_true, true_and, false_and]
  rw [if_neg (by omega)]

/-- strconv.Atoi of a numeral is its number. -/
theorem atoi_itoa (n : Int) (h : In64 n) : Lib.atoiAll (Lib.itoa n) = .ok n := by
  obtain ⟨h1, h2⟩ := h
  unfold Lib.itoa
  split
  · rw [atoi_neg _ _ (parseMag_digits n.natAbs (by omega)) (by omega)]
    congr 1; omega
  · obtain ⟨b, r, hbr⟩ : ∃ b r, Lib.decDigits n.toNat = b :: r := by
      cases hd : Lib.decDigits n.toNat with
      | nil => exact absurd hd (decDigits_ne _)
      | cons b r => exact ⟨b, r, rfl⟩
    have hb := decDigits_digits n.toNat b (by rw [hbr]; simp)
    have hp := parseMag_digits n.toNat (by omega)
    rw [hbr] at hp ⊢
    rw [atoi_pos b r _ (by omega) hp (by omega)]
    congr 1; omega

/-- The number that strconv.Atoi hands back, whether with an error or not. -/
def atoiVal (l : List UInt8) : Int := match Lib.atoiAll l with
  | .ok v => v
  | .range => Lib.atoiSat l
  | _ => 0

theorem atoiVal_in (l : List UInt8) : In64 (atoiVal l) := by
  unfold atoiVal
  rcases h : Lib.atoiAll l with v | _ | _
  · unfold Lib.atoiAll at h
    split at h
    · cases h
    · split at h
      · cases h
      · cases h
      · rename_i u _
        dsimp only at h
        split at h
        · cases h
        · split at h
          · cases h
          · split at h <;> (cases h; constructor <;> (dsimp only; omega))
  · constructor <;> (simp only []; omega)
  · unfold Lib.atoiSat; constructor <;> (dsimp only; split <;> omega)

theorem atoiVal_itoa (n : Int) (h : In64 n) : atoiVal (Lib.itoa n) = n := by rw [atoiVal, atoi_itoa n h]

theorem nDigits_le : ∀ (k u : Nat), u < 10 ^ (k + 1) → Lib.nDigits u ≤ k + 1
  | 0, u, h => by rw [Lib.nDigits_small (by simpa using h)]; omega
  | k + 1, u, h => by
    by_cases hs : u < 10
    · rw [Lib.nDigits_small hs]; omega
    · rw [Lib.nDigits_big hs]
      have := nDigits_le k (u / 10) (by rw [Nat.pow_succ] at h; omega)
      omega

theorem decDigits_le {u : Nat} (h : u ≤ 9223372036854775808) : (Lib.decDigits u).length ≤ 19 := by
  rw [Lib.decDigits_length]
  exact nDigits_le 18 u (by omega)

/-! ### the document's own reading of a number -/

/-- What digits tell, below 0, in 64 bits. -/
def downR (l : List UInt8) : Int := l.foldl (fun n b => wrap64 (wrap64 (10 * n) - ((b.toNat : Int) - 48))) 0

theorem wrap64_bounds (n : Int) : In64 (wrap64 n) := by unfold wrap64 In64; omega

theorem w64 {n : Int} (h : In64 n) : wrap64 n = n := IntWalk.wrap64_in n h

theorem downR_digits : ∀ u : Nat, u ≤ 9223372036854775808 → downR (Lib.decDigits u) = -(u : Int) := by
  intro u
  induction u using Nat.strongRecOn with
  | _ u ih =>
    intro hu
    rw [Lib.decDigits]
    split
    · rename_i h
      have hd := digit_byte h
      simp only [downR, List.foldl_cons, List.foldl_nil, hd]
      rw [w64 (n := 10 * 0) (by constructor <;> omega), w64 (by constructor <;> omega)]
      omega
    · rename_i h
      have hd := digit_byte (d := u % 10) (by omega)
      have := ih (u / 10) (by omega) (by omega)
      unfold downR at this ⊢
      simp only [List.foldl_append, this, List.foldl_cons, List.foldl_nil, hd]
      rw [w64 (n := 10 * -((u / 10 : Nat) : Int)) (by constructor <;> omega), w64 (by constructor <;> omega)]
      omega

/-- The digits of a text: behind a '-', if there is one. -/
def digR (w : List UInt8) : List UInt8 := if w.head? = some 45 then w.tail else w

/-- The number of digits, as they would be written. -/
def valR (w : List UInt8) : Int := if (digR w).length = w.length then wrap64 (-(downR (digR w))) else downR (digR w)

def isDigit (b : UInt8) : Bool := decide (48 ≤ b.toNat) && decide (b.toNat ≤ 57)

/-- A number's text read: none: it is none's. -/
def numR (w : List UInt8) : Option Int :=
  if (digR w).length < 1 ∨ 19 < (digR w).length then none
  else if (digR w).all isDigit = false then none
  else if Lib.itoa (valR w) = w then some (valR w) else none

theorem downR_in (l : List UInt8) : In64 (downR l) := by
  unfold downR
  rcases List.eq_nil_or_concat l with rfl | ⟨m, b, rfl⟩
  · constructor <;> simp
  · simp only [List.concat_eq_append, List.foldl_append, List.foldl_cons, List.foldl_nil]
    exact wrap64_bounds _

theorem valR_in (w : List UInt8) : In64 (valR w) := by
  unfold valR; split
  · exact wrap64_bounds _
  · exact downR_in _

theorem numR_some {w : List UInt8} {x : Int} (h : numR w = some x) : w = Lib.itoa x ∧ In64 x := by
  unfold numR at h
  split at h
  · cases h
  · split at h
    · cases h
    · split at h
      · rename_i e
        cases h
        exact ⟨e.symm, valR_in w⟩
      · cases h

theorem numR_itoa (x : Int) (h : In64 x) : numR (Lib.itoa x) = some x := by
  obtain ⟨h1, h2⟩ := h
  by_cases hn : x < 0
  · have e : Lib.itoa x = 45 :: Lib.decDigits x.natAbs := by rw [Lib.itoa, if_pos hn]
    have hd : digR (Lib.itoa x) = Lib.decDigits x.natAbs := by rw [e]; simp [digR]
    have hl := decDigits_le (u := x.natAbs) (by omega)
    have hne := decDigits_ne x.natAbs
    have hv : valR (Lib.itoa x) = x := by
      unfold valR
      rw [hd, if_neg (by rw [e]; simp), downR_digits _ (by omega)]; omega
    unfold numR
    rw [hd, if_neg (by have := List.length_pos_iff.2 hne; omega), if_neg, hv, if_pos rfl]
    rw [Bool.not_eq_false, List.all_eq_true]
    intro b hb
    have := decDigits_digits _ b hb
    simp [isDigit, this]
  · have e : Lib.itoa x = Lib.decDigits x.toNat := by rw [Lib.itoa, if_neg hn]
    have hne := decDigits_ne x.toNat
    have hd : digR (Lib.itoa x) = Lib.decDigits x.toNat := by
      rw [e]; unfold digR
      rw [if_neg]
      intro hh
      cases hdd : Lib.decDigits x.toNat with
      | nil => exact hne hdd
      | cons b r =>
        rw [hdd] at hh
        have := decDigits_digits x.toNat b (by rw [hdd]; simp)
        simp at hh; subst hh
        have e45 : (45 : UInt8).toNat = 45 := rfl
        omega
    have hl := decDigits_le (u := x.toNat) (by omega)
    have hv : valR (Lib.itoa x) = x := by
      unfold valR
      rw [hd, if_pos (by rw [e]), downR_digits _ (by omega), w64 (by constructor <;> omega)]; omega
    unfold numR
    rw [hd, if_neg (by have := List.length_pos_iff.2 hne; omega), if_neg, hv, if_pos rfl]
    rw [Bool.not_eq_false, List.all_eq_true]
    intro b hb
    have := decDigits_digits _ b hb
    simp [isDigit, this]
end Go.Proofs.YtlohcmnckfndlaaDoor
