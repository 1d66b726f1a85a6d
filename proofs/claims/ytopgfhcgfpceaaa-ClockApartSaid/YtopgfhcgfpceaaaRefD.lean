/- The walks of package tappetref16: New refused, Reset, Copy. -/
import Derived.Test.YtopgfhcgfpceaaaRefC
namespace Go.Proofs.Ytopgfhcgfpceaaa
open Go.RowKit

set_option maxRecDepth 20000 in
theorem rf_New_bad (nm : ByteArray) (mx bs mn n : Int) (w : World) (h : ¬ Clk.may mx mn n) :
    Calls Try.prog 32 #[.agg #[.string nm, .int .u32 mx, .int .u32 bs, .int .u32 mn], .int .i64 n] w fun e w' => ∃ p, e = .returned (.tuple #[.pointer (some ⟨p, 0, none⟩), .int .i64 160]) ∧ w.heap.size ≤ p ∧ w'.cell? ⟨p, 0, none⟩ = some (.bool false) ∧ Kept [] w w' := by
  unfold Clk.may at h
  go_enter Try.func32, Try.ntmps32
  go_wp2_with (fail)
  all_goals first | (exfalso; omega) | skip
  all_goals go_ret2
  all_goals refine ⟨w.heap.size + 1, rfl, by omega, by simp [go_sem], ((Kept.refl _ _).alloc _).alloc _⟩

set_option maxRecDepth 20000 in
theorem rf_Reset (w : World) (p q : Nat) (c : Clk) (h : RefAt w p q c) :
    Calls Try.prog 119 #[.pointer (some ⟨p, 0, none⟩)] w fun e w' => e = .returned (.tuple #[]) ∧ RefAt w' p w.heap.size { c with value := 0, al := List.replicate c.al.length Alm.zero } ∧ Kept [p] w w' := by
  have hwf := Clk.replicate_wf h.wf
  obtain ⟨⟨nm, bs, a, cap, tail, hx⟩, hf⟩ := h
  have hn := hf.n
  have hmk := rf_make c.al.length (by omega)
  have c5 := hx.c5
  have c6 := hx.c6
  have f5 := hx.row.free 5
  have f6 := hx.row.free 6
  have hp := hx.row.lt
  have hrow := hx.row
  have hcap := hx.2.2
  clear hx hf
  generalize hcs : (List.replicate c.al.length Alm.zero).flatMap Alm.enc = zs at *
  have HCS := Lib.hid hcs; clear hcs
  have fin : RefAt (((w.setCell ⟨p, 5, none⟩ (.int .u32 0)).setCell ⟨p, 6, none⟩ (.slice (some ⟨w.heap.size, 0, none⟩) c.al.length c.al.length)).alloc (.cells zs.toArray 212)) p w.heap.size { c with value := 0, al := List.replicate c.al.length Alm.zero } ∧ Kept [p] w (((w.setCell ⟨p, 5, none⟩ (.int .u32 0)).setCell ⟨p, 6, none⟩ (.slice (some ⟨w.heap.size, 0, none⟩) c.al.length c.al.length)).alloc (.cells zs.toArray 212)) := by
    refine ⟨⟨⟨nm, bs, some ⟨w.heap.size, 0, none⟩, c.al.length, [], ?_, .inr ⟨rfl, ?_, by omega⟩, by simp, by omega, fun h => by cases h⟩, hwf⟩, (((Kept.refl [p] w).setCell (by simp) _).setCell (by simp) _).alloc _⟩
    · have r := ((hrow.set 5 (.int .u32 0)).set 6 (.slice (some ⟨w.heap.size, 0, none⟩) c.al.length c.al.length)).alloc (.cells zs.toArray 212)
      simpa [Clk.rcells] using r
    · rw [List.append_nil]
      show Row _ _ _ ((List.replicate c.al.length Alm.zero).flatMap Alm.enc)
      rw [HCS.out]
      exact Row.new' (by simp)
  go_enter Try.func119, Try.ntmps119
  go_wp2
  go_end0
  exact ⟨rfl, fin⟩

/-- What 'append' gives, as the document's clock keeps it. -/
theorem ref_of_owns {w : World} {B p g0 : Nat} {nm : ByteArray} {bs : Int} {v : Value} {c : Clk} (hO : w.ownsRow B 212 3 v c.al.length (c.al.flatMap Alm.enc)) (hB : p < B)
    (hr : Row w p 73 [.bool true, .string nm, .int .u32 c.most, .int .u32 bs, .int .u32 c.least, .int .u32 c.value, v]) (hg : g0 = v.ownBlock.getD B) (hw : c.wf) : RefAt w p g0 c ∧ B ≤ g0 := by
  subst hg
  rcases hO.2 with ⟨rfl, h1⟩ | ⟨g, cap, cur, rfl, hb, hg, h1, h2, h3, h4⟩
  · have e : c.al = [] := List.eq_nil_of_length_eq_zero h1
    exact ⟨⟨⟨nm, bs, none, 0, [], by simpa [Clk.rcells, e] using hr, .inl e, by omega, by omega, fun _ => rfl⟩, hw⟩, Nat.le_refl _⟩
  · refine ⟨⟨⟨nm, bs, some ⟨g, 0, none⟩, cap, cur.toList.drop (c.al.length * 3), hr, .inr ⟨rfl, ?_, ?_⟩, h1, by unfold maxLen at h2; exact h2, fun h => by cases h⟩, hw⟩, hb⟩
    · rw [← h4, List.take_append_drop]
      show w.heap[g]? = some (.cells cur.toList.toArray 212 (0, 0))
      simpa using hg
    · show p ≠ g
      omega

end Go.Proofs.Ytopgfhcgfpceaaa
