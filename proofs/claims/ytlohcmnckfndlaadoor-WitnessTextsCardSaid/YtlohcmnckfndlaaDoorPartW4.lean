/-
  A part of the proof of WitnessTexts: contracts of functions that the law reaches.
-/
import Derived.Test.YtlohcmnckfndlaaDoorPartW3
import Derived.Laws.StructEq
namespace Go.Proofs.YtlohcmnckfndlaaDoor
open Go Go.RowKit

theorem fields36 : (Tryd.prog.fieldsOf 36).toList = [⟨"Kind", 5, 0, false, "", "", 0⟩, ⟨"Rank", 3, 1, false, "", "", 8⟩, ⟨"Call", 3, 2, false, "", "", 16⟩,
    ⟨"From", 3, 3, false, "", "", 24⟩, ⟨"Seq", 3, 4, false, "", "", 32⟩, ⟨"Value", 3, 5, false, "", "", 40⟩] := by kernel_rfl

theorem eqf_step {P : Program} {d : Nat} {xs ys : Array Value} {f : Field} {fs : List Field} {a b : Value} {r s : Bool} {w : World} (hn : f.name ≠ "_")
    (ha : (part f.type xs f.offset).run P w = .ok a w) (hb : (part f.type ys f.offset).run P w = .ok b w)
    (he : (Op.equalIn d f.type a b).run P w = .ok r w) (hr : (Op.eqFields d xs ys fs).run P w = .ok s w) :
    (Op.eqFields d xs ys (f :: fs)).run P w = .ok (r && s) w := by
  rw [Op.eqFields]
  simp only [if_pos hn, Sem.run_bind, ha, hb, he, Result.andThen_ok]
  cases r
  · simp
  · simpa using hr

theorem eq_pk (d : Nat) (p q : Pk) (w : World) : (Op.eqFields (d + 1) (pkCells p) (pkCells q) (Tryd.prog.fieldsOf 36).toList).run Tryd.prog w = .ok (decide (p = q)) w := by
  rw [fields36]
  have h := eqf_step (P := Tryd.prog) (d := d + 1) (xs := pkCells p) (ys := pkCells q) (f := ⟨"Kind", 5, 0, false, "", "", 0⟩) (a := .int .u8 p.kind) (b := .int .u8 q.kind) (w := w) (by decide) (by simp [part]) (by simp [part]) (run_equalIn_int w d 5 .u8 .u8 _ _ (by kernel_rfl))
    (eqf_step (f := ⟨"Rank", 3, 1, false, "", "", 8⟩) (a := .int .i64 p.rank) (b := .int .i64 q.rank) (by decide) (by simp [part]) (by simp [part]) (run_equalIn_int w d 3 .i64 .i64 _ _ (by kernel_rfl))
    (eqf_step (f := ⟨"Call", 3, 2, false, "", "", 16⟩) (a := .int .i64 p.call) (b := .int .i64 q.call) (by decide) (by simp [part]) (by simp [part]) (run_equalIn_int w d 3 .i64 .i64 _ _ (by kernel_rfl))
    (eqf_step (f := ⟨"From", 3, 3, false, "", "", 24⟩) (a := .int .i64 p.fr) (b := .int .i64 q.fr) (by decide) (by simp [part]) (by simp [part]) (run_equalIn_int w d 3 .i64 .i64 _ _ (by kernel_rfl))
    (eqf_step (f := ⟨"Seq", 3, 4, false, "", "", 32⟩) (a := .int .i64 p.sq) (b := .int .i64 q.sq) (by decide) (by simp [part]) (by simp [part]) (run_equalIn_int w d 3 .i64 .i64 _ _ (by kernel_rfl))
    (eqf_step (f := ⟨"Value", 3, 5, false, "", "", 40⟩) (fs := []) (a := .int .i64 p.val) (b := .int .i64 q.val) (s := true) (by decide) (by simp [part]) (by simp [part]) (run_equalIn_int w d 3 .i64 .i64 _ _ (by kernel_rfl)) (by simp [Op.eqFields]))))))
  refine h.trans (congrArg (fun b => Result.ok b w) ?_)
  rcases p with ⟨a1, a2, a3, a4, a5, a6⟩
  rcases q with ⟨b1, b2, b3, b4, b5, b6⟩
  simp only [Bool.and_true, Pk.mk.injEq, Bool.decide_and]
  rfl

theorem neq_pk (p q : Pk) (w : World) : (binOp .neq 36 (.agg (pkCells p)) (.agg (pkCells q))).run Tryd.prog w = .ok (.bool (decide (p ≠ q))) w := by
  rw [run_neq_struct, run_equalIn_struct (P := Tryd.prog) w 9999 36 (pkCells p) (pkCells q) (by kernel_rfl) (by kernel_rfl), eq_pk]
  simp
theorem eql_pk (p q : Pk) (w : World) : (binOp .eql 36 (.agg (pkCells p)) (.agg (pkCells q))).run Tryd.prog w = .ok (.bool (decide (p = q))) w := by
  rw [run_eql_struct, run_equalIn_struct (P := Tryd.prog) w 9999 36 (pkCells p) (pkCells q) (by kernel_rfl) (by kernel_rfl), eq_pk]
  simp

set_option maxRecDepth 100000 in
set_option maxHeartbeats 1000000 in
theorem same_t (a c : Option Addr) (l m : List Pk) (ca cm : Nat) (w : World) (hl : PkRow w a l) (hm : PkRow w c m) (hll : l.length ≤ 100000) (hc : l.length ≤ ca) (hcm : m.length ≤ cm) (he : l.length = m.length) :
    Calls Tryd.prog 8 #[.slice a l.length ca, .slice c m.length cm] w fun e w' => e = .returned (.bool (decide (l = m))) ∧ Below w.heap.size w w' := by
  have h0 : ((l.length : Int) != (m.length : Int)) = false := by rw [he]; simp
  go_enter Tryd.func8, Tryd.ntmps8
  go_wp2
  go_loopw [5] (fun i wr => ∃ k : Nat, k ≤ l.length ∧ i = .int .i64 k ∧ l.take k = m.take k ∧ Below w.heap.size w wr) (fun i _ => l.length - (intOf i).toNat)
  case atStart => exact ⟨0, by omega, rfl, rfl, Below.refl _ _⟩
  case round =>
    obtain ⟨k, hk, rfl, hpre, hB⟩ := hrel
    by_cases hlt : k < l.length
    · have hltm : k < m.length := by omega
      have hi := List.getElem?_eq_getElem hlt
      have hj := List.getElem?_eq_getElem hltm
      obtain ⟨p, hp⟩ : ∃ p, p = l[k] := ⟨_, rfl⟩
      obtain ⟨q, hq⟩ : ∃ q, q = m[k] := ⟨_, rfl⟩
      rw [← hp] at hi
      rw [← hq] at hj
      rcases hl.below hB with rfl | ⟨b, off, rfl, hbl, hcell⟩
      · simp at hlt
      rcases hm.below hB with rfl | ⟨b2, off2, rfl, hbl2, hcell2⟩
      · simp at hltm
      obtain ⟨c0, c1, c2, c3, c4, c5⟩ := hcell k p hi
      obtain ⟨d0, d1, d2, d3, d4, d5⟩ := hcell2 k q hj
      have Ht := Lib.hid (take_succ_get hi)
      have Hu := Lib.hid (take_succ_get hj)
      have Hp := Lib.hid hpre
      have He := Lib.hid he
      clear hcell hi hp hcell2 hj hq hpre he
      have k0 : (0 : Int) ≤ (k : Int) := by omega
      have k1 : (k : Int) < (l.length : Int) := by omega
      have k2 : (k : Int) < (m.length : Int) := by omega
      by_cases hpq : p = q
      · have hneq : ∀ w, (binOp .neq 36 (.agg (pkCells p)) (.agg (pkCells q))).run Tryd.prog w = .ok (.bool false) w := fun w => by rw [neq_pk]; simp [hpq]
        have Hn : Hid (l.take (k + 1) = m.take (k + 1)) := Lib.hid (by rw [Ht.out, Hu.out, Hp.out, hpq])
        clear hpq
        go_wp2
        go_quiet (fail)
        go_wp2
        go_roundw
        case rel => exact ⟨k + 1, by omega, by go_num, Hn.out, below_drewN hB _⟩
        case measure => simp [intOf]; omega
      · have hneq : ∀ w, (binOp .neq 36 (.agg (pkCells p)) (.agg (pkCells q))).run Tryd.prog w = .ok (.bool true) w := fun w => by rw [neq_pk]; simp [hpq]
        have Hn : Hid (l ≠ m) := Lib.hid (by
          intro e; subst e; apply hpq
          have := Ht.out.symm.trans Hu.out
          simpa using this)
        clear hpq
        go_wp2
        go_quiet (fail)
        go_wp2
        go_ret
        exact ⟨by rw [decide_eq_false Hn.out]; rfl, below_drewN hB _⟩
    · obtain rfl : k = l.length := by omega
      have Hn : Hid (l = m) := Lib.hid (by rw [List.take_length, he, List.take_length] at hpre; exact hpre)
      clear hpre
      go_wp2
      go_ret
      exact ⟨by rw [decide_eq_true Hn.out]; rfl, hB⟩
set_option maxRecDepth 100000 in
set_option maxHeartbeats 1000000 in
theorem equal_t (a c : Option Addr) (l m : List Pk) (ca cm : Nat) (w : World) (hl : PkRow w a l) (hm : PkRow w c m) (hll : l.length ≤ 100000) (hc : l.length ≤ ca) (hcm : m.length ≤ cm) (he : l.length = m.length) :
    Calls Tryd.prog 17 #[.slice a l.length ca, .slice c m.length cm] w fun e w' => e = .returned (.bool (decide (l = m))) ∧ Below w.heap.size w w' := by
  have h0 : ((l.length : Int) != (m.length : Int)) = false := by rw [he]; simp
  go_enter Tryd.func17, Tryd.ntmps17
  go_wp2
  go_loopw [13] (fun i wr => ∃ k : Nat, k ≤ l.length ∧ i = .int .i64 k ∧ l.take k = m.take k ∧ Below w.heap.size w wr) (fun i _ => l.length - (intOf i).toNat)
  case atStart => exact ⟨0, by omega, rfl, rfl, Below.refl _ _⟩
  case round =>
    obtain ⟨k, hk, rfl, hpre, hB⟩ := hrel
    by_cases hlt : k < l.length
    · have hltm : k < m.length := by omega
      have hi := List.getElem?_eq_getElem hlt
      have hj := List.getElem?_eq_getElem hltm
      obtain ⟨p, hp⟩ : ∃ p, p = l[k] := ⟨_, rfl⟩
      obtain ⟨q, hq⟩ : ∃ q, q = m[k] := ⟨_, rfl⟩
      rw [← hp] at hi
      rw [← hq] at hj
      rcases hl.below hB with rfl | ⟨b, off, rfl, hbl, hcell⟩
      · simp at hlt
      rcases hm.below hB with rfl | ⟨b2, off2, rfl, hbl2, hcell2⟩
      · simp at hltm
      obtain ⟨c0, c1, c2, c3, c4, c5⟩ := hcell k p hi
      obtain ⟨d0, d1, d2, d3, d4, d5⟩ := hcell2 k q hj
      have Ht := Lib.hid (take_succ_get hi)
      have Hu := Lib.hid (take_succ_get hj)
      have Hp := Lib.hid hpre
      have He := Lib.hid he
      clear hcell hi hp hcell2 hj hq hpre he
      have k0 : (0 : Int) ≤ (k : Int) := by omega
      have k1 : (k : Int) < (l.length : Int) := by omega
      have k2 : (k : Int) < (m.length : Int) := by omega
      by_cases hpq : p = q
      · have hneq : ∀ w, (binOp .neq 36 (.agg (pkCells p)) (.agg (pkCells q))).run Tryd.prog w = .ok (.bool false) w := fun w => by rw [neq_pk]; simp [hpq]
        have Hn : Hid (l.take (k + 1) = m.take (k + 1)) := Lib.hid (by rw [Ht.out, Hu.out, Hp.out, hpq])
        clear hpq
        go_wp2
        go_quiet (fail)
        go_wp2
        go_roundw
        case rel => exact ⟨k + 1, by omega, by go_num, Hn.out, below_drewN hB _⟩
        case measure => simp [intOf]; omega
      · have hneq : ∀ w, (binOp .neq 36 (.agg (pkCells p)) (.agg (pkCells q))).run Tryd.prog w = .ok (.bool true) w := fun w => by rw [neq_pk]; simp [hpq]
        have Hn : Hid (l ≠ m) := Lib.hid (by
          intro e; subst e; apply hpq
          have := Ht.out.symm.trans Hu.out
          simpa using this)
        clear hpq
        go_wp2
        go_quiet (fail)
        go_wp2
        go_ret
        exact ⟨by rw [decide_eq_false Hn.out]; rfl, below_drewN hB _⟩
    · obtain rfl : k = l.length := by omega
      have Hn : Hid (l = m) := Lib.hid (by rw [List.take_length, he, List.take_length] at hpre; exact hpre)
      clear hpre
      go_wp2
      go_ret
      exact ⟨by rw [decide_eq_true Hn.out]; rfl, hB⟩

set_option maxRecDepth 100000 in
theorem same_no (a c : Option Addr) (l m : List Pk) (ca cm : Nat) (w : World) (he : l.length ≠ m.length) :
    Calls Tryd.prog 8 #[.slice a l.length ca, .slice c m.length cm] w fun e w' => e = .returned (.bool (decide (l = m))) ∧ Below w.heap.size w w' := by
  have h0 : ((l.length : Int) != (m.length : Int)) = true := by rw [bne_iff_ne]; omega
  have Hn : Hid (l ≠ m) := Lib.hid (by rintro rfl; exact he rfl)
  go_enter Tryd.func8, Tryd.ntmps8
  go_wp2
  go_ret
  exact ⟨by rw [decide_eq_false Hn.out]; rfl, Below.refl _ _⟩

set_option maxRecDepth 100000 in
theorem equal_no (a c : Option Addr) (l m : List Pk) (ca cm : Nat) (w : World) (he : l.length ≠ m.length) :
    Calls Tryd.prog 17 #[.slice a l.length ca, .slice c m.length cm] w fun e w' => e = .returned (.bool (decide (l = m))) ∧ Below w.heap.size w w' := by
  have h0 : ((l.length : Int) != (m.length : Int)) = true := by rw [bne_iff_ne]; omega
  have Hn : Hid (l ≠ m) := Lib.hid (by rintro rfl; exact he rfl)
  go_enter Tryd.func17, Tryd.ntmps17
  go_wp2
  go_ret
  exact ⟨by rw [decide_eq_false Hn.out]; rfl, Below.refl _ _⟩

/-- THE SAME PICKS (the reference's). -/
theorem same_any (a c : Option Addr) (l m : List Pk) (ca cm : Nat) (w : World) (hl : PkRow w a l) (hm : PkRow w c m) (hll : l.length ≤ 100000) (hc : l.length ≤ ca) (hcm : m.length ≤ cm) :
    Calls Tryd.prog 8 #[.slice a l.length ca, .slice c m.length cm] w fun e w' => e = .returned (.bool (decide (l = m))) ∧ Below w.heap.size w w' := by
  by_cases he : l.length = m.length
  · exact same_t a c l m ca cm w hl hm hll hc hcm he
  · exact same_no a c l m ca cm w he

theorem equal_all (a c : Option Addr) (l m : List Pk) (ca cm : Nat) (w : World) (hl : PkRow w a l) (hm : PkRow w c m) (hll : l.length ≤ 100000) (hc : l.length ≤ ca) (hcm : m.length ≤ cm) :
    Calls Tryd.prog 17 #[.slice a l.length ca, .slice c m.length cm] w fun e w' => e = .returned (.bool (decide (l = m))) ∧ Below w.heap.size w w' := by
  by_cases he : l.length = m.length
  · exact equal_t a c l m ca cm w hl hm hll hc hcm he
  · exact equal_no a c l m ca cm w he

/-- THE SAME PICKS (the program's). -/
theorem wsame_any (a c : Option Addr) (l m : List Pk) (ca cm : Nat) (w : World) (hl : PkRow w a l) (hm : PkRow w c m) (hll : l.length ≤ 100000) (hc : l.length ≤ ca) (hcm : m.length ≤ cm) :
    Calls Tryd.prog 9 #[.slice a l.length ca, .slice c m.length cm] w fun e w' => e = .returned (.bool (decide (l = m))) ∧ Below w.heap.size w w' := by
  go_enter Tryd.func9, Tryd.ntmps9
  go_wp2_with (go_at_call 17; refine (equal_all a c l m ca cm _ hl hm hll hc hcm).mono ?_; rintro e w1 ⟨rfl, hb⟩)
  go_ret
  exact ⟨rfl, hb⟩
end Go.Proofs.YtlohcmnckfndlaaDoor
