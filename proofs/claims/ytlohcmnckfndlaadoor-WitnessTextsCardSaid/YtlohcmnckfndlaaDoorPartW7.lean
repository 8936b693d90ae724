/-
  A part of the proof of WitnessTexts: contracts of functions that the law reaches.
-/
import Derived.Test.YtlohcmnckfndlaaDoorPartW6
namespace Go.Proofs.YtlohcmnckfndlaaDoor
open Go Go.RowKit

theorem info9 : (Tryd.prog.info? 9).map (fun i => (i.zero, i.size, i.bytes)) = some (some (.string ⟨#[]⟩), 1, 16) := by kernel_rfl

theorem grown_of_below {w w' : World} (h : Below w.heap.size w w') (row : Option Nat) : w.grownBy w' row := ⟨h.os, h.tape, h.output, h.size, fun k hk _ => h.block k hk⟩
theorem owns_below {w w' : World} {base : Nat} {e : TypeId} {size n : Nat} {v : Value} {xs : List Value} (h : w.ownsRow base e size v n xs) (hb : Below w.heap.size w w') : w'.ownsRow base e size v n xs :=
  h.kept (grown_of_below hb none) (by cases hv : v.ownBlock <;> simp)

/-- The texts gathered. -/
abbrev Ts (l : List Pk) : List Value := l.map fun p => Value.string (bs (textP p))

theorem ts_snoc {l : List Pk} {p : Pk} {k : Nat} (h : l.take (k + 1) = l.take k ++ [p]) : Ts (l.take (k + 1)) = Ts (l.take k) ++ [.string (bs (textP p))] := by rw [h]; simp [Ts]

set_option maxRecDepth 100000 in
set_option maxHeartbeats 1000000 in
theorem wtext_t (a : Option Addr) (l : List Pk) (cap : Nat) (w : World) (hm : Mem w) (hr : PkRow w a l) (hin : ∀ p ∈ l, PkIn p) (hl : l.length ≤ 3000) (hc : l.length ≤ cap) (hne : l ≠ []) :
    Calls Tryd.prog 4 #[.slice a l.length cap] w fun e w' => e = .returned (textOut l 2) ∧ Below w.heap.size w w' := by
  obtain ⟨i0, hi0, hz0, hz1, hz2⟩ := info_parts info9
  have hlen : 0 < l.length := List.length_pos_iff.2 hne
  have h0 : ((l.length : Int) == 0) = false := by rw [beq_eq_false_iff_ne]; omega
  obtain ⟨B, hBeq⟩ : ∃ B, B = w.heap.size := ⟨_, rfl⟩
  rw [← hBeq]
  have h8 : 8 ≤ B := by rw [hBeq]; exact hm.size
  have HBeq := Lib.hid hBeq
  clear hBeq
  go_enter Tryd.func4, Tryd.ntmps4
  go_wp2
  go_loopw [4, 13] (fun v i wr => ∃ k : Nat, k ≤ l.length ∧ i = .int .i64 k ∧ wr.ownsRow B 9 1 v k (Ts (l.take k)) ∧ Below B w wr ∧ (∀ p ∈ l.take k, textP p ≠ [])) (fun _ i _ => l.length - (intOf i).toNat)
  case atStart => exact ⟨0, by omega, rfl, World.ownsRow_nil _ _ _ _, Below.refl _ _, by simp⟩
  case round =>
    obtain ⟨k, hk, rfl, hown, hB, hall⟩ := hrel
    by_cases hlt : k < l.length
    · have hr2 := hr.below (HBeq.out ▸ hB)
      have hi := List.getElem?_eq_getElem hlt
      obtain ⟨p, hp⟩ : ∃ p, p = l[k] := ⟨_, rfl⟩
      rw [← hp] at hi
      rcases hr2 with rfl | ⟨b, off, rfl, hbl, hcell⟩
      · exact absurd rfl hne
      obtain ⟨c0, c1, c2, c3, c4, c5⟩ := hcell k p hi
      have hpi : PkIn p := hin p (List.mem_of_getElem? hi)
      have hmem : p ∈ l := List.mem_of_getElem? hi
      have hsz2 : (bs (textP p)).size ≤ 106 := by rw [bs_size]; exact textP_le p hpi
      have Ht := Lib.hid (take_succ_get hi)
      have hBs : B ≤ wr.heap.size := HBeq.out ▸ hB.size
      have Hb1 := Lib.hid (show Below wr.heap.size wr (wr.alloc (.cells (pkCells p) 36)) from (Below.refl _ wr).alloc (Nat.le_refl _) _)
      have Hm1 := Lib.hid ((hm.below hB h8).below Hb1.out (Nat.le_trans h8 hBs))
      clear hcell hi hp
      have k0 : (0 : Int) ≤ (k : Int) := by omega
      have k1 : (k : Int) < (l.length : Int) := by omega
      by_cases ht : textP p = []
      · have Hs := Lib.hid (textOut_none hne hmem ht 2)
        have hte : (bs (textP p)).toList.isEmpty = true := by rw [ht]; exact bs_yes
        clear ht
        go_wp2_with (go_at_call 10; go_fit (wone_any p _ Hm1.out hpi); rintro e w1 ⟨rfl, hb1⟩)
        go_ret2
        exact ⟨by rw [Hs.out]; rfl, hB.trans ((Hb1.out.trans (hb1.mono Hb1.out.size)).mono hBs)⟩
      · have hte : (bs (textP p)).toList.isEmpty = false := bs_no ht
        have hall2 : ∀ q ∈ l.take (k + 1), textP q ≠ [] := by
          rw [Ht.out]; intro q hq
          rcases List.mem_append.1 hq with h | h
          · exact hall q h
          · rw [List.mem_singleton.1 h]; exact ht
        have Hall := Lib.hid hall2
        clear ht hall hall2
        go_wp2_with (first
          | (go_at_call 10; go_fit (wone_any p _ Hm1.out hpi); rintro e w1 ⟨rfl, hb1⟩; have hown1 := owns_below (owns_below hown Hb1.out) hb1)
          | (at_builtin; refine wpList_append_own _ rfl _ _ 34 rfl B 9 i0 (.string ⟨#[]⟩) 1 16 Tryd.underlying34 hi0 hz0 hz1 hz2 rfl (by decide) _ _ _ rfl (hown1.alloc _) ⟨w1.heap.size, 0, none⟩ 1 1 [.string (bs (textP p))] rfl rfl ?c1 ?c2 ?c3 ?c4 ?c5 ?_))
        case c1 =>
          intro j u hj
          match j, hj with
          | 0, hj => simp at hj; subst hj; simp [Addr.add]
        case c2 => intro u hu; simp at hu; subst hu; rfl
        case c3 => unfold maxLen; omega
        case c4 => omega
        case c5 => have h2 := hb1.size; rw [sz] at h2; rw [sz]; omega
        · intro v' w2 hown' hgrow _
          have Hown : Hid (w2.ownsRow B 9 1 v' (k + 1) (Ts (l.take (k + 1)))) := by rw [ts_snoc Ht.out]; simpa [Ts, Hid] using hown'
          have h1s : wr.heap.size ≤ w1.heap.size := Nat.le_trans Hb1.out.size hb1.size
          have HB2 : Hid (Below B w w2) := Lib.hid (((hB.trans ((Hb1.out.trans (hb1.mono Hb1.out.size)).mono hBs)).alloc (Nat.le_trans hBs h1s) _).grown hgrow (by simp; omega) (fun j hj => (hown1.lt j hj).1))
          clear hown' hgrow hown hown1 
          go_wp2
          go_roundw
          case rel => exact ⟨k + 1, by omega, by go_num, Hown.out, HB2.out, Hall.out⟩
          case measure => simp [intOf]; omega
    · obtain rfl : k = l.length := by omega
      rw [List.take_length] at hall
      have Hs := Lib.hid (textOut_all hne hall 2)
      have hBs : B ≤ wr.heap.size := HBeq.out ▸ hB.size
      rcases hown.2 with ⟨rfl, h⟩ | ⟨g, cp, cur, rfl, hg, hcur, hcp, hmx, hsz, htk⟩
      · omega
      · have hgl : g < wr.heap.size := by
          rcases Nat.lt_or_ge g wr.heap.size with h | h
          · exact h
          · rw [Array.getElem?_eq_none h] at hcur; cases hcur
        have hj : Lib.join ((l.map (fun p => bs (textP p))).map (·.data.toList)) (bs [32]).data.toList = grow l := by
          rw [List.map_map]; exact join_glue 32 _
        have hle := grow_le l hl hin
        have hcells : ∀ (j : Nat) x, (l.map (fun p => bs (textP p)))[j]? = some x → wr.cell? ⟨g, 0 + j, none⟩ = some (.string x) := by
          intro j x hx
          have e : cur.toList.take (l.length * 1) = Ts l := by rw [htk, List.take_length]
          have hjl : j < l.length := by
            rcases Nat.lt_or_ge j l.length with h | h
            · exact h
            · rw [List.getElem?_eq_none (by simpa using h)] at hx; cases hx
          rw [blk_cell hcur, ← Array.getElem?_toList]
          have : (cur.toList.take (l.length * 1))[0 + j]? = cur.toList[0 + j]? := by rw [List.getElem?_take]; simp; omega
          rw [← this, e, Nat.zero_add]
          simp only [List.getElem?_map] at hx ⊢
          cases hq : l[j]? with
          | none => rw [hq] at hx; cases hx
          | some q => rw [hq] at hx; simp at hx ⊢; exact hx
        have Hj := Lib.hid (Tryd.strings_Join g 0 cp (l.map (fun p => bs (textP p))) (bs [32]) wr hcells hgl (by simp; omega) (by simp; omega) (by rw [hj]; omega))
        rw [hj, List.length_map] at Hj
        clear hcells hall
        go_wp2_with (go_at_call 11; go_fit Hj.out; rintro e w1 ⟨rfl, hb1⟩)
        go_ret2
        exact ⟨by rw [Hs.out]; rfl, hB.trans (hb1.mono hBs)⟩

set_option maxRecDepth 100000 in
theorem wtext_nil (a : Option Addr) (cap : Nat) (w : World) :
    Calls Tryd.prog 4 #[.slice a 0 cap] w fun e w' => e = .returned (textOut [] 2) ∧ Below w.heap.size w w' := by
  have Hs := Lib.hid (show textOut [] 2 = .tuple #[.string (bs [45]), .int .i64 0] from rfl)
  go_enter Tryd.func4, Tryd.ntmps4
  go_wp2
  go_ret2
  exact ⟨by rw [Hs.out]; rfl, Below.refl _ _⟩

/-- THE PROGRAM's TEXT OF A SCHEDULE. -/
theorem wtext_any (a : Option Addr) (l : List Pk) (cap : Nat) (w : World) (hm : Mem w) (hr : PkRow w a l) (hin : ∀ p ∈ l, PkIn p) (hl : l.length ≤ 3000) (hc : l.length ≤ cap) :
    Calls Tryd.prog 4 #[.slice a l.length cap] w fun e w' => e = .returned (textOut l 2) ∧ Below w.heap.size w w' := by
  by_cases h : l = []
  · subst h; exact wtext_nil a cap w
  · exact wtext_t a l cap w hm hr hin hl hc h
end Go.Proofs.YtlohcmnckfndlaaDoor
