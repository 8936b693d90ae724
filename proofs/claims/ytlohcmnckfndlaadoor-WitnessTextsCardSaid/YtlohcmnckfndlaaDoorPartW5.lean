/-
  A part of the proof of WitnessTexts: contracts of functions that the law reaches.
-/
import Derived.Test.YtlohcmnckfndlaaDoorPartW4
import Derived.Test.YtlohcmnckfndlaaDoorShelf
namespace Go.Proofs.YtlohcmnckfndlaaDoor
open Go Go.RowKit

/-- What the library's own variables hold. -/
structure Mem (w : World) : Prop where
  size : 8 ≤ w.heap.size
  tab : Lib.TabIs Tryd.prog w "internal/strconv.uint64pow10" .u64 Lib.pow10Tab
  maxl : ∃ m, w.cell? ⟨0, 0, none⟩ = some (.int .i64 m)
  syn : ∃ tp p, w.var? Tryd.prog "strconv.ErrSyntax" = some #[.iface tp p]
  rng : ∃ tp p, w.var? Tryd.prog "strconv.ErrRange" = some #[.iface tp p]

theorem Mem.below {B : Nat} {w w' : World} (hb : Below B w w') (hB : 8 ≤ B) (h : Mem w) : Mem w' where
  size := Nat.le_trans h.size hb.size
  tab := by
    have := h.tab
    unfold Lib.TabIs at this ⊢
    exact var?_below hb (g := 5) (by kernel_rfl) (by omega) this
  maxl := by obtain ⟨m, hm⟩ := h.maxl; exact ⟨m, (hb.cell (p := ⟨0, 0, none⟩) (by show 0 < B; omega)).trans hm⟩
  syn := by obtain ⟨a, b, hm⟩ := h.syn; exact ⟨a, b, var?_below hb (g := 3) (by kernel_rfl) (by omega) hm⟩
  rng := by obtain ⟨a, b, hm⟩ := h.rng; exact ⟨a, b, var?_below hb (g := 4) (by kernel_rfl) (by omega) hm⟩

theorem below_appended (w : World) (os : Array Obj) : Below w.heap.size w (Go.Sort.grow w os) := 
  ⟨rfl, rfl, rfl, by simp [Go.Sort.grow], fun k hk => by simp [Go.Sort.grow, Array.getElem?_append_left hk]⟩

theorem itoa_any (n : Int) (w : World) (h : In64 n) (hm : Mem w) :
    Calls Tryd.prog 27 #[.int .i64 n] w fun e w' => e = .returned (.string (bs (Lib.itoa n))) ∧ Below w.heap.size w w' := by
  refine (Tryd.strconv_Itoa n h.1 h.2 w hm.tab).mono ?_
  rintro e w' ⟨rfl, k, os, rfl⟩
  exact ⟨rfl, (below_drewN (Below.refl w.heap.size w) k).trans (below_appended (w.drewN k) os)⟩

/-- Ints in a row. -/
def IntRow (w : World) (b off : Nat) (l : List Int) : Prop := b < w.heap.size ∧ ∀ i x, l[i]? = some x → w.cell? ⟨b, off + i, none⟩ = some (.int .i64 x)

theorem IntRow.below {w w' : World} {b off : Nat} {l : List Int} (hb : Below w.heap.size w w') (h : IntRow w b off l) : IntRow w' b off l :=
  ⟨Nat.lt_of_lt_of_le h.1 hb.size, fun i x hi => (hb.cell (p := ⟨b, _, none⟩) h.1).trans (h.2 i x hi)⟩

theorem dots_take {l : List Int} {k : Nat} {n : Int} (h : l[k]? = some n) : dots (l.take (k + 1)) = dots (l.take k) ++ (46 :: Lib.itoa n) := by
  rw [List.take_add_one, h]; simp [dots]

theorem dots_le (l : List Int) (h : ∀ x ∈ l, In64 x) : (dots l).length ≤ 21 * l.length := by
  induction l with
  | nil => simp [dots]
  | cons x r ih =>
    have h1 := itoa_le x (h x (by simp))
    have h2 := ih (fun y hy => h y (by simp [hy]))
    have e : dots (x :: r) = (46 :: Lib.itoa x) ++ dots r := rfl
    rw [e]; simp only [List.length_append, List.length_cons]; omega

set_option maxRecDepth 100000 in
set_option maxHeartbeats 1000000 in
theorem dotted_any (c : List UInt8) (b off cap : Nat) (l : List Int) (w : World) (hm : Mem w) (hr : IntRow w b off l) (hin : ∀ x ∈ l, In64 x) (hl : l.length ≤ 100) (hc : c.length ≤ 100) :
    Calls Tryd.prog 18 #[.string (bs c), .slice (some ⟨b, off, none⟩) l.length cap] w fun e w' => e = .returned (.string (bs (c ++ dots l))) ∧ Below w.heap.size w w' := by
  go_enter Tryd.func18, Tryd.ntmps18
  go_wp2
  go_loopw [0, 9] (fun s i wr => ∃ k : Nat, k ≤ l.length ∧ i = .int .i64 k ∧ s = .string (bs (c ++ dots (l.take k))) ∧ Below w.heap.size w wr) (fun _ i _ => l.length - (intOf i).toNat)
  case atStart => exact ⟨0, by omega, rfl, by simp [dots], Below.refl _ _⟩
  case round =>
    obtain ⟨k, hk, rfl, rfl, hB⟩ := hrel
    by_cases hlt : k < l.length
    · have hi := List.getElem?_eq_getElem hlt
      obtain ⟨n, hn⟩ : ∃ n, n = l[k] := ⟨_, rfl⟩
      rw [← hn] at hi
      have hbl : b < wr.heap.size := Nat.lt_of_lt_of_le hr.1 hB.size
      have hcell := (hB.cell (p := ⟨b, off + k, none⟩) hr.1).trans (hr.2 k n hi)
      have hni := hin n (List.mem_of_getElem? hi)
      have hmr := hm.below hB hm.size
      have s1 : (bs (Lib.itoa n)).size ≤ 20 := by rw [bs_size]; exact itoa_le n hni
      have s2 : (bs (c ++ dots (l.take k))).size ≤ 2200 := by
        rw [bs_size, List.length_append]
        have := dots_le (l.take k) (fun x hx => hin x (List.mem_of_mem_take hx))
        rw [List.length_take] at this; omega
      have Hs := Lib.hid (show bs (c ++ dots (l.take k)) ++ (bs [46] ++ bs (Lib.itoa n)) = bs (c ++ dots (l.take (k + 1))) by
        rw [dots_take hi, ← bs_app, ← bs_app]; simp)
      clear hi hn
      go_wp2_with (go_at_call 27; refine (itoa_any n _ hni hmr).mono ?_; rintro e w1 ⟨rfl, hb1⟩)
      go_roundw
      case rel => exact ⟨k + 1, by omega, by go_num, by rw [← Hs.out]; rfl, hB.trans (hb1.mono hB.size)⟩
      case measure => simp [intOf]; omega
    · obtain rfl : k = l.length := by omega
      rw [List.take_length]
      go_wp2
      go_ret
      exact ⟨rfl, hB⟩
end Go.Proofs.YtlohcmnckfndlaaDoor
