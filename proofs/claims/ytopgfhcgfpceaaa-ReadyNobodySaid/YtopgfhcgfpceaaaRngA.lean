/- The walk of package ring: list. -/
import Derived.Test.YtopgfhcgfpceaaaRng
namespace Go.Proofs.Ytopgfhcgfpceaaa
open Go.RowKit

theorem items_snoc (r : Rg) (i : Nat) : (List.range (i + 1)).map (fun i => r.cells[(r.from_ + i) % r.cells.length]?.getD 0) = (List.range i).map (fun i => r.cells[(r.from_ + i) % r.cells.length]?.getD 0) ++ [r.cells[(r.from_ + i) % r.cells.length]?.getD 0] := by
  rw [List.range_succ, List.map_append]
  rfl

set_option maxHeartbeats 1600000 in
set_option maxRecDepth 20000 in
theorem rg_list (w : World) (p q : Nat) (r : Rg) (h : RgAt w p q r) : Calls Try.prog 200 #[.pointer (some ⟨p, 0, none⟩)] w fun e w' => ∃ v, e = .returned v ∧ w'.ownsRow w.heap.size 3 1 v r.items.length (r.items.map fun i => .int .i64 i) ∧ Kept [] w w' := by
  obtain ⟨i0, hi, hz0, hz1, hz2⟩ := info_parts Try.info3
  obtain ⟨⟨a, cap, tail, hx⟩, hw⟩ := h
  have c2 : w.cell? ⟨p, 2, none⟩ = some (.slice a r.cells.length cap) := hx.1.cell rfl
  have c3 : w.cell? ⟨p, 3, none⟩ = some (.int .i64 r.from_) := hx.1.cell rfl
  have c4 : w.cell? ⟨p, 4, none⟩ = some (.int .i64 r.n) := hx.1.cell rfl
  have h1 := hw.n
  have h2 := hw.len
  have h3 := hw.room
  have hp := hx.1.lt
  have HX := Lib.hid hx
  have HW := Lib.hid hw
  clear hx hw
  have hn0 : (r.n : Int) ≤ 9223372036854775807 := by omega
  go_enter Try.func200, Try.ntmps200
  go_wp2_with (fail)
  go_loopw [3, 9] (fun v iv wr => ∃ i : Nat, i ≤ r.n ∧ iv = .int .i64 i ∧ wr.ownsRow w.heap.size 3 1 v i (((List.range i).map (fun i => r.cells[(r.from_ + i) % r.cells.length]?.getD 0)).map fun i => .int .i64 i) ∧ Kept [] w wr) (fun _ iv _ => r.n - (intOf iv).toNat)
  case atStart => exact ⟨0, Nat.zero_le _, rfl, World.ownsRow_nil _ _ _ _, Kept.refl _ _⟩
  case round =>
    obtain ⟨i, hin, rfl, hO, hK⟩ := hrel
    obtain ⟨sa, scap, rfl, hs1, hs2⟩ := owns_slice hO
    have hs3 : scap ≤ 9223372036854775807 := by unfold maxLen at hs2; exact hs2
    by_cases hlt : i < r.n
    · have hX := HX.out.kept hK (by simp) (by simp)
      have hlen : 0 < r.cells.length := by omega
      have hsn := items_snoc r i
      obtain ⟨k, hk⟩ : ∃ k, k = (r.from_ + i) % r.cells.length := ⟨_, rfl⟩
      rw [← hk] at hsn
      have hkl : k < r.cells.length := by rw [hk]; exact Nat.mod_lt _ hlen
      have hfr := HW.out.fr
      rcases hX.2.1 with h0 | ⟨ha, hrow, hpq⟩
      · rw [h0] at hlen; simp at hlen
      subst ha
      have hki : ((r.from_ : Int) + (i : Int)) % (r.cells.length : Int) = (k : Int) := by rw [hk, Int.natCast_emod, Int.natCast_add]
      have hcap := hX.2.2.1
      have hcap2 := hX.2.2.2.1
      have hget := List.getElem?_eq_getElem hkl
      rw [hget, Option.getD_some] at hsn
      have d0 : wr.cell? ⟨q, k, none⟩ = some (.int .i64 r.cells[k]) := hrow.cell (by rw [List.getElem?_append_left (by simpa using hkl), List.getElem?_map, hget]; rfl)
      have hX0 := HX.out
      have d0' : w.cell? ⟨q, k, none⟩ = some (.int .i64 r.cells[k]) := by
        rcases hX0.2.1 with h0 | ⟨_, hr0, _⟩
        · rw [h0] at hlen; simp at hlen
        · exact hr0.cell (by rw [List.getElem?_append_left (by simpa using hkl), List.getElem?_map, hget]; rfl)
      have c2' : w.cell? ⟨p, 2, none⟩ = some (.slice (some ⟨q, 0, none⟩) r.cells.length cap) := hX0.1.cell rfl
      have c3' : w.cell? ⟨p, 3, none⟩ = some (.int .i64 r.from_) := c3
      clear hX0
      have d2 : wr.cell? ⟨p, 2, none⟩ = some (.slice (some ⟨q, 0, none⟩) r.cells.length cap) := hX.1.cell rfl
      have d3 : wr.cell? ⟨p, 3, none⟩ = some (.int .i64 r.from_) := hX.1.cell rfl
      have hqw := hrow.lt
      have hpw := hX.1.lt
      generalize r.cells[k] = x at *
      have HSN := Lib.hid hsn
      clear hsn hget hX hk
      have hKd : Kept [] w wr.drew := hK.drew
      have hb0 : (0 : Int) ≤ (r.from_ : Int) + i := by omega
      have hz : ((r.cells.length : Int) == 0) = false := beq_eq_false_iff_ne.2 (by omega)
      have hwk := hK.size
      generalize r.cells.length = len at *
      have hf1 : (r.from_ : Int) + i ≤ 131072 := by omega
      have hkt : ((r.from_ : Int) + (i : Int)).tmod (len : Int) = (k : Int) := by rw [Int.tmod_eq_emod_of_nonneg hb0, hki]
      have hsum : IntKind.i64.wrap ((r.from_ : Int) + (i : Int)) = (r.from_ : Int) + (i : Int) := IntWalk.i64_in _ (by omega)
      have hl2 : ¬ len = 0 := by omega
      have hl3 : ¬ (len : Int) = 0 := by omega
      have hkb0 : (0 : Int) ≤ k := by omega
      have hkb1 : (k : Int) < len := by omega
      have hkb2 : (k : Int) ≤ len := by omega
      go_wp2_with (fail)
      go_region_held3 (fun w' => w'.cell? ⟨p, 2, none⟩ = some (.slice (some ⟨q, 0, none⟩) len cap) ∧ w'.cell? ⟨p, 3, none⟩ = some (.int .i64 r.from_) ∧ w'.cell? ⟨q, k, none⟩ = some (.int .i64 x)) (go_keep) ((first | (rw [if_pos (by rfl)]; go_loud (refine wp_append_own _ (.tmp 12) (.tmp 31) 35 rfl w.heap.size 3 i0 (.int .i64 0) 1 8 Try.underlying35 hi hz0 hz1 hz2 rfl (by decide) _ _ _ rfl (hO.alloc _) ⟨wr.heap.size, 0, none⟩ 1 1 [.int .i64 x] rfl rfl (by intro j u hj; match j, hj with | 0, hj => simp at hj; subst hj; simp [Addr.add, go_sem]) (by simp [Value.oneCell']) (by unfold maxLen; omega) (by omega) (by simp; omega) ?_); intro v' w1 hown' hgrow hnn; have hK1 := (hKd.alloc (.cells #[.int .i64 x] 3)).grown hgrow (fun j hj => .inr (hO.lt j hj).1); have f2 := hK1.cell c2' (by simp); have f3 := hK1.cell c3' (by simp); have f0 := hK1.cell d0' (by simp))))
      all_goals go_wp2
      all_goals go_roundw
      case rel => exact ⟨i + 1, by omega, by go_num, by rw [HSN.out, List.map_append]; exact hown', hK1⟩
      case measure => simp [intOf]; omega
    · obtain rfl : i = r.n := by omega
      go_wp2
      go_ret
      refine ⟨_, rfl, ?_, hK⟩
      rw [Rg.items_length]
      exact hO
end Go.Proofs.Ytopgfhcgfpceaaa
