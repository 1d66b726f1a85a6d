/- The walks of package tappetref16: Get, Cancel, New, Reset, Copy. -/
import Derived.Test.YtopgfhcgfpceaaaRefB
namespace Go.Proofs.Ytopgfhcgfpceaaa
open Go.RowKit

theorem Try.info212 : (Try.prog.info? 212).map (fun i => (i.zero, i.size, i.bytes)) = some (some (.agg #[.bool false, .int .u64 0, .int .u32 0]), 3, 24) := by kernel_rfl

theorem Alm.zero_wf {m : Int} (h : 1 ≤ m) : Alm.zero.wf m := ⟨by simp [Alm.zero], by simp [Alm.zero]; omega, by simp [Alm.zero], by simp [Alm.zero]; omega, by simp [Alm.zero], fun _ => rfl⟩

set_option maxRecDepth 20000 in
theorem rf_Get (w : World) (p q : Nat) (c : Clk) (n : Int) (h : RefAt w p q c) :
    Calls Try.prog 120 #[.pointer (some ⟨p, 0, none⟩), .int .i64 n] w fun e w' => e = .returned (.tuple #[.agg (c.of n).1.enc.toArray, .int .i64 (c.of n).2]) ∧ Kept [] w w' := by
  have hc := fun o => rf_has (w.alloc o) p q c n (h.kept ((Kept.refl [] w).alloc o) (by simp) (by simp))
  obtain ⟨⟨nm, bs, a, cap, tail, hx⟩, hwf⟩ := h
  have h6 := hx.c6
  have hn := hwf.n
  by_cases h1 : 0 ≤ n ∧ n < c.al.length
  · obtain ⟨hb0, hb1⟩ := h1
    have hlt : n.toNat < c.al.length := by omega
    have hget : c.al[n.toNat]? = some (c.at n) := by simp [Clk.at, hlt]
    have har := hx.arow hlt
    have hq := har.lt
    have hcap := hx.2.2
    obtain ⟨ha, _, hpq⟩ := hx.on hlt
    subst ha
    have g0 := hx.a0 hget
    have g1 := hx.a1 hget
    have g2 := hx.a2 hget
    have hp := hx.row.lt
    have hh : c.has n = true := by simp [Clk.has, hb0, hb1]
    rw [hh] at hc
    clear hx hget har
    by_cases h2 : (c.at n).set = true
    · rw [h2] at g0
      have e1 : c.of n = (c.at n, 0) := by simp [Clk.of, hh, h2]
      have e2 : (c.at n).enc = [.bool true, .int .u64 (c.at n).left, .int .u32 (c.at n).cycle] := by simp [Alm.enc, h2]
      rw [e1, e2]
      clear hh e1 e2 h2
      go_enter Try.func120, Try.ntmps120
      go_wp2_with (go_at_call 207; refine (hc _).mono ?_; rintro e w' ⟨rfl, rfl⟩)
      refine bodyPost_ret (v := .tuple #[.agg #[.bool true, .int .u64 (c.at n).left, .int .u32 (c.at n).cycle], .int .i64 0]) (by simp [results, Try.results120, go_sem]) rfl ⟨rfl, ?_⟩
      exact ((Kept.refl [] w).alloc _)
    · have h2' : (c.at n).set = false := by simpa using h2
      rw [h2'] at g0
      have e1 : c.of n = (Alm.zero, 5) := by simp [Clk.of, hh, h2']
      rw [e1]
      clear hh e1 h2
      go_enter Try.func120, Try.ntmps120
      go_wp2_with (go_at_call 207; refine (hc _).mono ?_; rintro e w' ⟨rfl, rfl⟩)
      refine bodyPost_ret (v := .tuple #[.agg #[.bool false, .int .u64 0, .int .u32 0], .int .i64 5]) (by simp [results, Try.results120, go_sem]) rfl ⟨rfl, ?_⟩
      exact ((Kept.refl [] w).alloc _)
  · have hh : c.has n = false := by simp [Clk.has]; omega
    have e1 : c.of n = (Alm.zero, 3) := by simp [Clk.of, hh]
    rw [e1]
    rw [hh] at hc
    clear e1 hx h1 hh
    go_enter Try.func120, Try.ntmps120
    go_wp2_with (go_at_call 207; refine (hc _).mono ?_; rintro e w' ⟨rfl, rfl⟩)
    refine bodyPost_ret (v := .tuple #[.agg #[.bool false, .int .u64 0, .int .u32 0], .int .i64 3]) (by simp [results, Try.results120, go_sem]) rfl ⟨rfl, ?_⟩
    exact ((Kept.refl [] w).alloc _)

set_option maxRecDepth 20000 in
theorem rf_Cancel (w : World) (p q : Nat) (c : Clk) (n : Int) (h : RefAt w p q c) :
    Calls Try.prog 115 #[.pointer (some ⟨p, 0, none⟩), .int .i64 n] w fun e w' => e = .returned (.int .i64 (c.cancel n).1) ∧ RefAt w' p q (c.cancel n).2 ∧ Kept [q] w w' := by
  have ho := rf_Get w p q c n h
  have hp := h.lt
  have hn := h.wf.n
  by_cases hs : (c.of n).2 = 0
  · have hh : c.has n = true := by
      by_cases hb : c.has n = true
      · exact hb
      · exfalso; simp [Clk.of, Bool.eq_false_iff.2 hb] at hs
    have hb : 0 ≤ n ∧ n < c.al.length := by simpa [Clk.has] using hh
    obtain ⟨hb0, hb1⟩ := hb
    have hlt : n.toNat < c.al.length := by omega
    have hget : c.al[n.toNat]? = some (c.at n) := by simp [Clk.at, hlt]
    have e1 : c.cancel n = (0, { c with al := c.al.set n.toNat Alm.zero }) := by simp [Clk.cancel, hs]
    rw [e1]
    rw [hs] at ho
    have zw := Alm.zero_wf h.wf.m0
    have zz := Clk.set_wf h.wf n.toNat zw
    obtain ⟨⟨nm, bs, a, cap, tail, hx⟩, hwf⟩ := h
    have hcap := hx.2.2
    obtain ⟨ha, har, hpq⟩ := hx.on hlt
    subst ha
    have hq := har.lt
    have hc := fun w' (hk : Kept [] w w') => hx.kept hk (by simp) (by simp)
    have fin : ∀ w' (hk : Kept [] w w') o, RefAt ((((w'.setCell ⟨q, n.toNat * 3, none⟩ (.bool false)).setCell ⟨q, n.toNat * 3 + 1, none⟩ (.int .u64 0)).setCell ⟨q, n.toNat * 3 + 2, none⟩ (.int .u32 0)).alloc o) p q { c with al := c.al.set n.toNat Alm.zero } ∧ Kept [q] w ((((w'.setCell ⟨q, n.toNat * 3, none⟩ (.bool false)).setCell ⟨q, n.toNat * 3 + 1, none⟩ (.int .u64 0)).setCell ⟨q, n.toNat * 3 + 2, none⟩ (.int .u32 0)).alloc o) := fun w' hk o => ⟨⟨⟨nm, bs, _, cap, tail, ((hc w' hk).set3 hlt Alm.zero).kept ((Kept.refl [] _).alloc o) (by simp) (by simp)⟩, zz⟩, (((((hk.mono (S' := [q]) (by simp)).setCell (by simp) _).setCell (by simp) _).setCell (by simp) _).alloc o)⟩
    generalize (c.of n).1 = x at ho
    clear e1 hs hh hx har zz zw
    unfold Alm.enc at ho
    go_enter Try.func115, Try.ntmps115
    go_wp2_with (go_at_call 120; refine ho.mono ?_; rintro e w' ⟨rfl, hk⟩; have hc' := hc w' hk; have hf := fin w' hk (.cells #[.bool x.set, .int .u64 x.left, .int .u32 x.cycle] 212); have g4 := hc'.c6; have g0 := hc'.a0 hget; have g1 := hc'.a1 hget; have g2 := hc'.a2 hget; have f0 := (hc'.arow hlt).free (n.toNat * 3); have f1 := (hc'.arow hlt).free (n.toNat * 3 + 1); have f2 := (hc'.arow hlt).free (n.toNat * 3 + 2); have hp' : p < w'.heap.size := by { have := hk.size; omega }; have hq' : q < w'.heap.size := by { have := hk.size; omega })
    go_ret
    exact ⟨rfl, hf⟩
  · have e1 : c.cancel n = ((c.of n).2, c) := by simp [Clk.cancel, hs]
    rw [e1]
    have hs' : ((c.of n).2 == 0) = false := by simpa using hs
    have r' := fun w' (hk : Kept [] w w') o => (⟨(h.kept hk (by simp) (by simp)).kept ((Kept.refl [] w').alloc o) (by simp) (by simp), (hk.mono (S' := [q]) (by simp)).alloc o⟩ : RefAt (w'.alloc o) p q c ∧ Kept [q] w (w'.alloc o))
    generalize c.of n = x at *
    clear e1 hs h
    unfold Alm.enc at ho
    go_enter Try.func115, Try.ntmps115
    go_wp2_with (go_at_call 120; refine ho.mono ?_; rintro e w' ⟨rfl, hk⟩)
    go_ret
    exact ⟨rfl, r' _ hk _⟩

theorem Clk.replicate_wf {c : Clk} (h : c.wf) : ({ c with value := 0, al := List.replicate c.al.length Alm.zero } : Clk).wf := by
  refine ⟨h.m0, h.m1, h.e0, h.e1, by simp, by simp; have := h.m0; omega, by simpa using h.n, ?_⟩
  intro a ha
  simp at ha
  obtain ⟨_, rfl⟩ := ha
  exact Alm.zero_wf h.m0

theorem rf_make (n : Nat) (hn : n ≤ 64) (w : World) : (Instr.makeSlice 71 (.int .i64 n) (.int .i64 n)).run Try.prog w = .ok (.slice (some ⟨w.heap.size, 0, none⟩) n n) (w.alloc (.cells ((List.replicate n Alm.zero).flatMap Alm.enc).toArray 212)) := by
  obtain ⟨i0, hi, hz0, hz1, hz2⟩ := info_parts Try.info212
  have := run_make (P := Try.prog) w 71 212 i0 _ Try.underlying71 hi hz0 .i64 .i64 n n (by omega) (Int.le_refl _) (by rw [hz2]; omega) (by omega)
  have hzc : (Value.agg #[.bool false, .int .u64 0, .int .u32 0]).cells = Alm.zero.enc.toArray := rfl
  rw [this, hz1, hzc, Int.toNat_natCast, madeCells_flat Alm.enc Alm.zero n 3 rfl (by omega)]

set_option maxRecDepth 20000 in
theorem rf_New (nm : ByteArray) (mx bs mn : Int) (n : Nat) (w : World) (h : Clk.may mx mn n) :
    Calls Try.prog 32 #[.agg #[.string nm, .int .u32 mx, .int .u32 bs, .int .u32 mn], .int .i64 n] w fun e w' => ∃ p q, e = .returned (.tuple #[.pointer (some ⟨p, 0, none⟩), .int .i64 0]) ∧ w.heap.size ≤ p ∧ w.heap.size ≤ q ∧ RefAt w' p q (Clk.fresh mx mn n) ∧ Kept [] w w' := by
  have hwf := Clk.fresh_wf h
  rw [Int.toNat_natCast] at hwf
  obtain ⟨h1, h2, h3, h4, h5, h6⟩ := h
  have hmk := rf_make n (by omega)
  have r' := fun w' (hk : Kept [] w w') hc => (⟨w.heap.size + 1 + 1, w.heap.size + 1, rfl, by omega, by omega, ⟨⟨nm, bs, some ⟨w.heap.size + 1, 0, none⟩, n, [], hc⟩, hwf⟩, hk⟩ : ∃ p q, Ending.returned (.tuple #[.pointer (some ⟨w.heap.size + 1 + 1, 0, none⟩), .int .i64 0]) = .returned (.tuple #[.pointer (some ⟨p, 0, none⟩), .int .i64 0]) ∧ w.heap.size ≤ p ∧ w.heap.size ≤ q ∧ RefAt w' p q (Clk.fresh mx mn n) ∧ Kept [] w w')
  unfold RefX at r'
  have hfl : (Clk.fresh mx mn n).al = List.replicate n Alm.zero := rfl
  rw [hfl] at r'
  generalize hcs : (List.replicate n Alm.zero).flatMap Alm.enc = zs at *
  have HCS := Lib.hid hcs; clear hcs hwf
  have hn : n ≤ 64 := by omega
  go_enter Try.func32, Try.ntmps32
  go_wp2
  go_region_held3 (fun w' => w'.cell? ⟨w.heap.size, 0, none⟩ = some (.string nm) ∧ w'.cell? ⟨w.heap.size, 1, none⟩ = some (.int .u32 mx) ∧ w'.cell? ⟨w.heap.size, 2, none⟩ = some (.int .u32 bs) ∧ w'.cell? ⟨w.heap.size, 3, none⟩ = some (.int .u32 mn)) (go_keep) ((first | (fail)))
  all_goals go_wp2
  all_goals go_ret2
  have hp : Row ((w.alloc (.cells #[.string nm, .int .u32 mx, .int .u32 bs, .int .u32 mn] 24)).alloc (.cells zs.toArray 212)) (w.heap.size + 1) 212 zs := Row.new' (by simp)
  have hk := (((Kept.refl [] w).alloc (.cells #[.string nm, .int .u32 mx, .int .u32 bs, .int .u32 mn] 24)).alloc (.cells zs.toArray 212))
  refine r' _ (hk.alloc _).drew ⟨?_, .inr ⟨trivial, ?_, by omega⟩, by simp, by omega, fun h => by cases h⟩
  · have e : (Clk.fresh mx mn n).rcells nm bs (some ⟨w.heap.size + 1, 0, none⟩) n = [.bool true, .string nm, .int .u32 mx, .int .u32 bs, .int .u32 mn, .int .u32 0, .slice (some ⟨w.heap.size + 1, 0, none⟩) n n] := by simp [Clk.rcells, Clk.fresh]
    rw [e]
    exact Row.drew (Row.new' (by simp))
  · rw [List.append_nil]
    exact Row.drew (hp.alloc _)

end Go.Proofs.Ytopgfhcgfpceaaa
