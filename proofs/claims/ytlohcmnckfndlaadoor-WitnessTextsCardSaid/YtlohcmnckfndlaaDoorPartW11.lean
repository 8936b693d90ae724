/-
  A part of the proof of WitnessTexts: contracts of functions that the law reaches.
-/
import Derived.Test.YtlohcmnckfndlaaDoorPartW10
namespace Go.Proofs.YtlohcmnckfndlaaDoor
open Go Go.RowKit

theorem splitB_bs (c : UInt8) (s : List UInt8) : Lib.splitB (bs [c]) 0 (Lib.countB (bs s) (bs [c])) (bs s) = (parts c s).map bs := by
  have h := Lib.splitB_data (bs [c]) 0 (Lib.countB (bs s) (bs [c])) (bs s)
  have e : Lib.splitK (bs [c]).data.toList 0 (Lib.countB (bs s) (bs [c])) (bs s).data.toList = parts c s := split_parts c s
  rw [e] at h
  rw [← h, List.map_map]
  have : (bs ∘ fun (x : ByteArray) => x.data.toList) = id := by funext x; rfl
  rw [this, List.map_id]

theorem parts_count (c : UInt8) (s : List UInt8) : Lib.countB (bs s) (bs [c]) + 1 = (parts c s).length := by
  rw [← Lib.splitB_all (bs [c]) (by rw [bs_size]; simp) 0 _ (bs s) rfl, splitB_bs, List.length_map]

theorem wsplit_any (c : UInt8) (s : List UInt8) (w : World) (hm : Mem w) (hl : s.length ≤ 100000) :
    Calls Tryd.prog 24 #[.string (bs s), .string (bs [c])] w fun e w' => e = .returned (.slice (some ⟨w.heap.size, 0, none⟩) (parts c s).length (parts c s).length) ∧ StrRow w' w.heap.size (parts c s) ∧ Below w.heap.size w w' := by
  obtain ⟨m, hmx⟩ := hm.maxl
  refine (Tryd.strings_Split (bs s) (bs [c]) m w (by rw [bs_size]; omega) hmx (by rw [bs_size]; simp)).mono ?_
  rintro e w' ⟨rfl, rfl⟩
  rw [splitB_bs, parts_count]
  refine ⟨rfl, ⟨by simp, fun i x hi => ?_⟩, (Below.refl _ w).alloc (Nat.le_refl _) _⟩
  have e : (w.alloc (.cells (((parts c s).map bs).map Value.string).toArray 9)).heap[w.heap.size]? = some (.cells (((parts c s).map bs).map Value.string).toArray 9 (0, 0)) := heap_alloc_new w _
  rw [blk_cell e]; simp [hi]

theorem atoi_any (l : List UInt8) (w : World) (hm : Mem w) (hl : l.length ≤ 100000) :
    Calls Tryd.prog 25 #[.string (bs l)] w fun e w' => ∃ er, e = .returned (.tuple #[.int .i64 (atoiVal l), er]) ∧ Below w.heap.size w w' := by
  rcases h : Lib.atoiAll l with v | _ | _
  · refine (Tryd.strconv_Atoi_ok (bs l) (by rw [bs_size]; omega) v h w).mono ?_
    rintro e w' ⟨rfl, h2⟩
    refine ⟨_, by rw [atoiVal, h], ?_⟩
    rcases h2 with rfl | ⟨t, rfl⟩
    · exact Below.refl _ _
    · exact Lib.bytesWorld_below _ _ _
  · obtain ⟨tp, p, hs⟩ := hm.syn
    refine (Tryd.strconv_Atoi_syntax_var (bs l) (by rw [bs_size]; omega) h tp p w hs).mono ?_
    rintro e w' ⟨N, rfl, _, _, hb⟩
    exact ⟨_, by rw [atoiVal, h], hb⟩
  · obtain ⟨tp, p, hs⟩ := hm.rng
    refine (Tryd.strconv_Atoi_range_var (bs l) (by rw [bs_size]; omega) h tp p w hs).mono ?_
    rintro e w' ⟨N, rfl, _, _, hb⟩
    exact ⟨_, by rw [atoiVal, h]; rfl, hb⟩
end Go.Proofs.YtlohcmnckfndlaaDoor
