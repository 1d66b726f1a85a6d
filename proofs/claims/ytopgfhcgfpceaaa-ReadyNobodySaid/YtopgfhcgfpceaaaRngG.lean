/- The walk of package ring: First. -/
import Derived.Test.YtopgfhcgfpceaaaRngF
namespace Go.Proofs.Ytopgfhcgfpceaaa
open Go.RowKit

/-- Behind the stores of First. -/
theorem rg_fronted {w w1 : World} {p q q' : Nat} {s : Rg} {cap : Nat} {tail : List Value} {k : Nat} (v : Int) {hi : Int} (hk1 : Kept [p] w w1) (hq' : q' = q ∨ w.heap.size ≤ q') (h1 : RgAt w1 p q' s) (hx : RgX w1 p q' (some ⟨q', 0, none⟩) cap tail s)
    (hrow : Row w1 q' 3 ((s.cells.map fun i => .int .i64 i) ++ tail)) (hpq : p ≠ q') (hk : k = (s.from_ + s.cells.length - 1) % s.cells.length) (hlt : s.n < s.cells.length) (hhi : hi = (max s.high (s.n + 1) : Nat)) :
    RgPut w p q (s.front v) (.returned (.int .i64 0)) (((((w1.setCell ⟨p, 3, none⟩ (.int .i64 k)).setCell ⟨q', k, none⟩ (.int .i64 v)).setCell ⟨p, 4, none⟩ (.int .i64 ((s.n : Int) + 1))).setCell ⟨p, 5, none⟩ (.int .i64 hi)).drew.drew.drew) := by
  have hkl : k < s.cells.length := by rw [hk]; exact Nat.mod_lt _ (by omega)
  subst hhi
  refine ⟨rfl, ⟨q', hq', ⟨_, cap, tail, ?_, .inr ⟨rfl, ?_, hpq⟩, ?_, hx.2.2.2.1, by simp⟩, Rg.front_wf v h1.2 hlt⟩, ?_⟩
  · have e := ((((hx.1.set 3 (.int .i64 k)).set_ne (a := ⟨q', k, none⟩) (Ne.symm hpq) (.int .i64 v)).set 4 (.int .i64 ((s.n : Int) + 1))).set 5 (.int .i64 (max s.high (s.n + 1) : Nat))).drew.drew.drew
    unfold Rg.rcells at e ⊢
    unfold Rg.front
    simp only [List.length_set]
    rw [← hk]
    exact e
  · have e := ((((hrow.set_ne (a := ⟨p, 3, none⟩) hpq (.int .i64 k)).set k (.int .i64 v)).set_ne (a := ⟨p, 4, none⟩) hpq (.int .i64 ((s.n : Int) + 1))).set_ne (a := ⟨p, 5, none⟩) hpq (.int .i64 (max s.high (s.n + 1) : Nat))).drew.drew.drew
    rw [map_set_app _ _ _ _ hkl] at e
    unfold Rg.front
    rw [← hk]
    exact e
  · unfold Rg.front; simpa using hx.2.2.1
  · refine ((((((hk1.mono (by simp)).setCell (by simp) _).setCell ?_ _).setCell (by simp) _).setCell (by simp) _).drew).drew.drew
    rcases hq' with h | h
    · subst h; exact .inl (by simp)
    · exact .inr h

set_option maxHeartbeats 1600000 in
set_option maxRecDepth 20000 in
theorem rg_First (w : World) (p q : Nat) (r : Rg) (v : Int) (h : RgAt w p q r) (hn : r.n < r.room) : Calls Try.prog 128 #[.pointer (some ⟨p, 0, none⟩), .int .i64 v] w (RgPut w p q (r.space.front v)) := by
  have ha := rg_alive w p q r h
  have hsp := rg_space w p q r h hn
  have hlt := Rg.space_lt h.2 hn
  rw [← Rg.space_n] at hlt
  have hpq0 : p < w.heap.size := by obtain ⟨⟨a, cap, tail, hx⟩, _⟩ := h; exact hx.1.lt
  generalize r.space = s at *
  clear h hn
  go_enter Try.func128, Try.ntmps128
  go_wp2_with (first | (go_at_call 197; refine ha.mono ?_; rintro e w' ⟨rfl, rfl⟩) | (go_at_call 198; refine hsp.mono ?_; rintro e w1 ⟨rfl, ⟨q', hq', h1⟩, hk1⟩))
  obtain ⟨cap, tail, hx, hrow, hpq, hcap, hcap2⟩ := h1.on (by omega)
  have hw := h1.2
  have b1 := hw.n; have b2 := hw.len; have b3 := hw.room; have b4 := hw.hi; have b5 := hw.hi2; have b6 := hw.fr2 (by omega)
  obtain ⟨k, hk⟩ : ∃ k, k = (s.from_ + s.cells.length - 1) % s.cells.length := ⟨_, rfl⟩
  have hkl : k < s.cells.length := by rw [hk]; exact Nat.mod_lt _ (by omega)
  have s1 : IntKind.i64.wrap ((s.from_ : Int) + (s.cells.length : Int)) = (s.from_ : Int) + (s.cells.length : Int) := IntWalk.i64_in _ (by omega)
  have s4 : IntKind.i64.wrap ((s.from_ : Int) + (s.cells.length : Int) - 1) = (s.from_ : Int) + (s.cells.length : Int) - 1 := IntWalk.i64_in _ (by omega)
  have s2 : ((s.from_ : Int) + (s.cells.length : Int) - 1).tmod (s.cells.length : Int) = (k : Int) := by rw [Int.tmod_eq_emod_of_nonneg (by omega), hk, Int.natCast_emod, Int.natCast_sub (by omega), Int.natCast_add]; rfl
  have s3 : ¬ s.cells.length = 0 := by omega
  have hp := hx.1
  have d2 : w1.cell? ⟨p, 2, none⟩ = some (.slice (some ⟨q', 0, none⟩) s.cells.length cap) := hp.cell rfl
  have d3 : w1.cell? ⟨p, 3, none⟩ = some (.int .i64 s.from_) := hp.cell rfl
  have d4 : w1.cell? ⟨p, 4, none⟩ = some (.int .i64 s.n) := hp.cell rfl
  have d5 : w1.cell? ⟨p, 5, none⟩ = some (.int .i64 s.high) := hp.cell rfl
  have f3 := hp.free 3
  have f4 := hp.free 4
  have f5 := hp.free 5
  have fk := hrow.free k
  have dk : w1.cell? ⟨q', k, none⟩ = some (.int .i64 (s.cells[k]'hkl)) := hrow.cell (by rw [List.getElem?_append_left (by simpa using hkl), List.getElem?_map, List.getElem?_eq_getElem hkl]; rfl)
  have HX := Lib.hid hx
  have HK := Lib.hid hk
  have H1 := Lib.hid h1
  have HR := Lib.hid hrow
  have HP := Lib.hid hp
  clear hx hk h1 hrow hp hw
  generalize s.cells[k] = x0 at *
  generalize hlen : s.cells.length = len at *
  have HLEN := Lib.hid hlen
  clear hlen
  refine still_tail 18 (by kernel_rfl) (by kernel_rfl) ?_
  simp only [List.take_succ_cons, List.take_zero, List.drop_succ_cons, List.drop_zero]
  repeat still_step
  refine wpStill_nil ?_
  go_wp2
  refine still_tail 9 (by kernel_rfl) (by kernel_rfl) ?_
  simp only [List.take_succ_cons, List.take_zero, List.drop_succ_cons, List.drop_zero]
  repeat still_step
  refine wpStill_nil ?_
  go_wp2
  refine still_tail 10 (by kernel_rfl) (by kernel_rfl) ?_
  simp only [List.take_succ_cons, List.take_zero, List.drop_succ_cons, List.drop_zero]
  repeat still_step
  all_goals refine wpStill_nil ?_
  all_goals go_wp2
  all_goals go_ret
  all_goals exact rg_fronted v hk1 hq' H1.out HX.out HR.out hpq (by rw [HLEN.out]; exact HK.out) (by rw [HLEN.out]; omega) (by omega)
end Go.Proofs.Ytopgfhcgfpceaaa
