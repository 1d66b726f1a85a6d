/- The walk of package ring: Take. -/
import Derived.Test.YtopgfhcgfpceaaaRngH
namespace Go.Proofs.Ytopgfhcgfpceaaa
open Go.RowKit

theorem rg_Take_nil (w : World) : Calls Try.prog 106 #[.pointer none] w fun e w' => e = .returned (.tuple #[.int .i64 0, .int .i64 1]) ∧ w = w' := by
  go_enter Try.func106, Try.ntmps106
  go_wp2_with (go_at_call 197; refine (rg_alive_nil _).mono ?_; rintro e w' ⟨rfl, rfl⟩)
  go_ret2
  exact ⟨rfl, rfl⟩

theorem rg_Take_none (w : World) (p q : Nat) (r : Rg) (h : RgAt w p q r) (hn : r.n = 0) : Calls Try.prog 106 #[.pointer (some ⟨p, 0, none⟩)] w fun e w' => e = .returned (.tuple #[.int .i64 0, .int .i64 122]) ∧ w = w' := by
  have ha := rg_alive w p q r h
  obtain ⟨⟨a, cap, tail, hx⟩, hw⟩ := h
  have c4 : w.cell? ⟨p, 4, none⟩ = some (.int .i64 0) := by have : w.cell? ⟨p, 4, none⟩ = some (.int .i64 r.n) := hx.1.cell rfl; rw [hn] at this; exact this
  clear hx hw hn
  go_enter Try.func106, Try.ntmps106
  go_wp2_with (go_at_call 197; refine ha.mono ?_; rintro e w' ⟨rfl, rfl⟩)
  go_ret2
  exact ⟨rfl, rfl⟩

/-- xs[l:l+m] of a slice, not at its very end. -/
theorem run_slice_mid {P : Program} (W : World) (t e : TypeId) (i : TypeInfo) (b o len cap l m : Nat) (lo hi : Int) (hu : P.underlying t = some (.slice e)) (hinf : P.info? e = some i) (hs : i.size = 1) (hl : lo = l) (hh : hi = (l + m : Nat)) (hlt : l < cap) (hle : l + m ≤ cap) :
    (Instr.slice t (.slice (some ⟨b, o, none⟩) len cap) (some (.int .i64 lo)) (some (.int .i64 hi)) none).run P W = .ok (.slice (some ⟨b, o + l, none⟩) m (cap - l)) W := by
  subst hl hh
  have h1 := fun code => run_sliceBound (P := P) (w := W) .i64 ((l + m : Nat) : Int) cap code (by omega) (by omega)
  have h2 := fun code => run_sliceBound (P := P) (w := W) .i64 (l : Int) (l + m) code (by omega) (by omega)
  have h3 : ¬ cap = l := by omega
  rw [Int.toNat_natCast] at h1 h2
  rw [Int.natCast_add] at h1
  simp [Instr.slice, run_underlying hu, Instr.sliceBounds, h1, h2, sizeOf, typeInfo, hinf, hs, h3, addr_add]

set_option maxHeartbeats 1600000 in
set_option maxRecDepth 20000 in
theorem rg_Take (w : World) (p q : Nat) (s : Rg) (h : RgAt w p q s) (hn : 0 < s.n) : Calls Try.prog 106 #[.pointer (some ⟨p, 0, none⟩)] w fun e w' => e = .returned (.tuple #[.int .i64 (s.cells[s.from_]?.getD 0), .int .i64 0]) ∧ RgAt w' p q s.rest ∧ Kept [p, q] w w' := by
  have ha := rg_alive w p q s h
  have hwf := Rg.rest_wf h.2 hn
  have b0 := h.2.n
  obtain ⟨cap, tail, hx, hrow, hpq, hcap, hcap2⟩ := h.on (by omega)
  have hw := h.2
  have b1 := hw.n; have b2 := hw.len; have b3 := hw.room; have b4 := hw.hi; have b5 := hw.hi2; have b6 := hw.fr2 (by omega)
  obtain ⟨k, hk⟩ : ∃ k, k = (s.from_ + 1) % s.cells.length := ⟨_, rfl⟩
  have s1 : IntKind.i64.wrap ((s.from_ : Int) + 1) = (s.from_ : Int) + 1 := IntWalk.i64_in _ (by omega)
  have s2 : ((s.from_ : Int) + 1).tmod (s.cells.length : Int) = (k : Int) := by rw [Int.tmod_eq_emod_of_nonneg (by omega), hk, Int.natCast_emod, Int.natCast_add]; rfl
  have s3 : ¬ s.cells.length = 0 := by omega
  have s4 : ((s.n : Int) == 0) = false := beq_eq_false_iff_ne.2 (by omega)
  have hp := hx.1
  have d2 : w.cell? ⟨p, 2, none⟩ = some (.slice (some ⟨q, 0, none⟩) s.cells.length cap) := hp.cell rfl
  have d3 : w.cell? ⟨p, 3, none⟩ = some (.int .i64 s.from_) := hp.cell rfl
  have d4 : w.cell? ⟨p, 4, none⟩ = some (.int .i64 s.n) := hp.cell rfl
  have f3 := hp.free 3
  have f4 := hp.free 4
  have dk : w.cell? ⟨q, s.from_, none⟩ = some (.int .i64 (s.cells[s.from_]?.getD 0)) := hrow.cell (by rw [List.getElem?_append_left (by simpa using b6), List.getElem?_map, List.getElem?_eq_getElem b6]; rfl)
  generalize s.cells[s.from_]?.getD 0 = x0 at *
  obtain ⟨i0, hi0, hz0, hz1, hz2⟩ := info_parts Try.info3
  have hsl := fun W => run_slice_mid (P := Try.prog) W 35 3 i0 q 0 s.cells.length cap s.from_ 1 (s.from_ : Int) ((s.from_ : Int) + 1) Try.underlying35 hi0 hz1 rfl (by simp) (by omega) (by omega)
  rw [Nat.zero_add] at hsl
  have hcl : ∃ W1 : Nat → World, ∀ N, (Builtin.clear_ #[35] 0 #[.slice (some ⟨q, s.from_, none⟩) 1 (cap - s.from_)]).run Try.prog (w.drewN N) = .ok (.tuple #[]) (W1 N) ∧ Row (W1 N) p 288 (s.rcells (some ⟨q, 0, none⟩) cap) ∧ Row (W1 N) q 3 (((s.cells.set s.from_ 0).map fun i => .int .i64 i) ++ tail) ∧ Kept [p, q] w (W1 N) := by
    refine ⟨fun N => (w.drewN N).setRow q (((s.cells.set s.from_ 0).map fun i => Value.int .i64 i) ++ tail).toArray, fun N => ⟨?_, ?_, ?_, ?_⟩⟩
    · have := run_clear_at (P := Try.prog) (w := w.drewN N) 35 0 3 i0 _ q s.from_ 1 (cap - s.from_) _ (zeros 1) 3 Try.underlying35 hi0 hz0 hrow (by simp [zeros]; omega) (zeros_cells _) (zeros_one _)
      rw [this, ← map_set_app _ _ _ _ b6, List.set_eq_take_append_cons_drop, if_pos (by simp; omega)]
      simp [zeros]
    · exact Row.setRow_ne (w := w.drewN N) hp _ hpq
    · exact Row.setRow (w := w.drewN N) hrow _
    · exact (Kept.drewN _ _ _).setRow (by simp) _
  obtain ⟨W1, hW1⟩ := hcl
  have hcl := fun N => (hW1 N).1
  have e3 : ∀ N, (W1 N).cell? ⟨p, 3, none⟩ = some (.int .i64 s.from_) := fun N => (hW1 N).2.1.cell rfl
  have e2 : ∀ N, (W1 N).cell? ⟨p, 2, none⟩ = some (.slice (some ⟨q, 0, none⟩) s.cells.length cap) := fun N => (hW1 N).2.1.cell rfl
  have e4 : ∀ N, (W1 N).cell? ⟨p, 4, none⟩ = some (.int .i64 s.n) := fun N => (hW1 N).2.1.cell rfl
  have g3 := fun N => (hW1 N).2.1.free 3
  have g4 := fun N => (hW1 N).2.1.free 4
  have HW := Lib.hid hW1
  clear hW1
  have HX := Lib.hid hx
  have HK := Lib.hid hk
  have H1 := Lib.hid h
  have HR := Lib.hid hrow
  clear hx hk h hrow hp hw
  generalize hlen : s.cells.length = len at *
  have HLEN := Lib.hid hlen
  clear hlen
  go_enter Try.func106, Try.ntmps106
  go_wp2_with (go_at_call 197; refine ha.mono ?_; rintro e w' ⟨rfl, rfl⟩)
  go_quiet (fail)
  go_wp2
  refine still_tail 14 (by kernel_rfl) (by kernel_rfl) ?_
  simp only [List.take_succ_cons, List.take_zero, List.drop_succ_cons, List.drop_zero]
  repeat still_step
  refine wpStill_nil ?_
  go_wp2_with (fail)
  rename_i nq _ _
  refine still_tail 12 (by kernel_rfl) (by kernel_rfl) ?_
  simp only [List.take_succ_cons, List.take_zero, List.drop_succ_cons, List.drop_zero]
  repeat still_step
  refine wpStill_nil ?_
  go_wp2
  go_ret2
  refine ⟨rfl, ⟨⟨some ⟨q, 0, none⟩, cap, tail, ?_, .inr ⟨rfl, ?_, hpq⟩, ?_, HX.out.2.2.2.1, by simp⟩, hwf⟩, (((HW.out _).2.2.2.setCell (by simp) _).setCell (by simp) _).drew⟩
  · have e := (((HW.out (nq + 1)).2.1.set 3 (.int .i64 k)).set 4 (.int .i64 ((s.n : Int) - 1))).drew
    rw [show ((s.n : Int) - 1) = ((s.n - 1 : Nat) : Int) by omega] at e ⊢
    unfold Rg.rcells at e ⊢
    unfold Rg.rest
    simp only [List.length_set]
    rw [HLEN.out, ← HK.out]
    rw [HLEN.out] at e
    exact e
  · have e := (((HW.out (nq + 1)).2.2.1.set_ne (a := ⟨p, 3, none⟩) hpq (.int .i64 k)).set_ne (a := ⟨p, 4, none⟩) hpq (.int .i64 ((s.n : Int) - 1))).drew
    unfold Rg.rest
    exact e
  · unfold Rg.rest
    have := HX.out.2.2.1
    simpa using this
end Go.Proofs.Ytopgfhcgfpceaaa
