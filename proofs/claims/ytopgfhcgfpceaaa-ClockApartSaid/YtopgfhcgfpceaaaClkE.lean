/- The walks of package clock: New, Reset, Copy, Cancel, soonest. -/
import Derived.Test.YtopgfhcgfpceaaaClkD
namespace Go.Proofs.Ytopgfhcgfpceaaa
open Go.RowKit

theorem Try.info182 : (Try.prog.info? 182).map (fun i => (i.zero, i.size, i.bytes)) = some (some (.agg #[.bool false, .int .u64 0, .int .u32 0]), 3, 24) := by kernel_rfl

theorem Alm.oneCell (a : Alm) : ∀ v ∈ a.enc, v.oneCell' = true := by
  intro v hv
  simp [Alm.enc] at hv
  rcases hv with rfl | rfl | rfl <;> rfl

/-- A clock that New gives. -/
def Clk.fresh (mx mn : Int) (n : Nat) : Clk := ⟨mx, mn, 0, List.replicate n Alm.zero⟩

def Clk.may (mx mn n : Int) : Prop := 1 ≤ mx ∧ mx ≤ 2147483647 ∧ 1 ≤ mn ∧ mn ≤ mx ∧ 0 ≤ n ∧ n ≤ 64

theorem Clk.fresh_wf {mx mn n : Int} (h : Clk.may mx mn n) : (Clk.fresh mx mn n.toNat).wf := by
  obtain ⟨h1, h2, h3, h4, h5, h6⟩ := h
  refine ⟨h1, h2, h3, h4, by simp [Clk.fresh], by simp [Clk.fresh]; omega, by simp [Clk.fresh]; omega, ?_⟩
  intro a ha
  simp [Clk.fresh] at ha
  obtain ⟨_, rfl⟩ := ha
  exact ⟨by simp [Alm.zero], by simp [Alm.zero, Clk.fresh]; omega, by simp [Alm.zero], by simp [Alm.zero, Clk.fresh]; omega, by simp [Alm.zero], fun _ => rfl⟩

set_option maxRecDepth 20000 in
theorem ck_New (nm : ByteArray) (mx bs mn n : Int) (w : World) (h : Clk.may mx mn n) (R : Ending → World → Prop)
    (r : ∀ p q w', w.heap.size ≤ p → w.heap.size ≤ q → ClockAt w' p q (Clk.fresh mx mn n.toNat) → Kept [] w w' → R (.returned (.tuple #[.pointer (some ⟨p, 0, none⟩), .int .i64 0])) w') :
    Calls Try.prog 17 #[.agg #[.string nm, .int .u32 mx, .int .u32 bs, .int .u32 mn], .int .i64 n] w (Fin R) := by
  obtain ⟨i0, hi, hz0, hz1, hz2⟩ := info_parts Try.info182
  have hwf := Clk.fresh_wf h
  obtain ⟨h1, h2, h3, h4, h5, h6⟩ := h
  have hmk : ∀ w, (Instr.makeSlice 171 (.int .i64 n) (.int .i64 n)).run Try.prog w = .ok (.slice (some ⟨w.heap.size, 0, none⟩) n.toNat n.toNat) (w.alloc (.cells ((List.replicate n.toNat Alm.zero).flatMap Alm.enc).toArray 182)) := by
    intro w
    have := run_make (P := Try.prog) w 171 182 i0 _ Try.underlying171 hi hz0 .i64 .i64 n n (by omega) (Int.le_refl _) (by rw [hz2]; omega) (by omega)
    have hzc : (Value.agg #[.bool false, .int .u64 0, .int .u32 0]).cells = Alm.zero.enc.toArray := rfl
    rw [this, hz1, hzc, madeCells_flat Alm.enc Alm.zero n.toNat 3 rfl (by omega)]
  have r' := fun w' (hk : Kept [] w w') (hc : ClockAt w' (w.heap.size + 1 + 1) (w.heap.size + 1) (Clk.fresh mx mn n.toNat)) => r (w.heap.size + 1 + 1) (w.heap.size + 1) w' (by omega) (by omega) hc hk
  clear r
  generalize hcs : (List.replicate n.toNat Alm.zero).flatMap Alm.enc = zs at hmk
  have HCS := Lib.hid hcs; clear hcs
  have HWF := Lib.hid hwf; clear hwf
  go_enter Try.func17, Try.ntmps17
  go_wp2
  go_region_held3 (fun w' => w'.cell? ⟨w.heap.size, 1, none⟩ = some (.int .u32 mx) ∧ w'.cell? ⟨w.heap.size, 3, none⟩ = some (.int .u32 mn)) (go_keep) ((first | (fail)))
  all_goals go_wp2
  all_goals go_ret2
  have hp : Row ((w.alloc (.cells #[.string nm, .int .u32 mx, .int .u32 bs, .int .u32 mn] 24)).alloc (.cells zs.toArray 182)) (w.heap.size + 1) 182 zs := Row.new' (by simp)
  have hk := (((Kept.refl [] w).alloc (.cells #[.string nm, .int .u32 mx, .int .u32 bs, .int .u32 mn] 24)).alloc (.cells zs.toArray 182))
  refine r' _ (hk.alloc _).drew ⟨⟨?_, ?_, by omega⟩, HWF.out⟩
  · have e : (Clk.fresh mx mn n.toNat).cells (w.heap.size + 1) = [.bool true, .int .u32 mx, .int .u32 mn, .int .u32 0, .slice (some ⟨w.heap.size + 1, 0, none⟩) n.toNat n.toNat] := by simp [Clk.cells, Clk.fresh]
    rw [e]
    exact Row.drew (Row.new' (by simp))
  · show Row _ _ _ ((List.replicate n.toNat Alm.zero).flatMap Alm.enc)
    rw [HCS.out]
    exact Row.drew (hp.alloc _)

set_option maxRecDepth 20000 in
theorem ck_New_bad (nm : ByteArray) (mx bs mn n : Int) (w : World) (h : ¬ Clk.may mx mn n) :
    Calls Try.prog 17 #[.agg #[.string nm, .int .u32 mx, .int .u32 bs, .int .u32 mn], .int .i64 n] w fun e w' => e = .returned (.tuple #[.pointer none, .int .i64 160]) ∧ Kept [] w w' := by
  unfold Clk.may at h
  go_enter Try.func17, Try.ntmps17
  go_wp2_with (fail)
  all_goals first | (exfalso; omega) | skip
  all_goals go_ret2
  all_goals exact ⟨rfl, (Kept.refl _ _).alloc _⟩

set_option maxRecDepth 20000 in
theorem ck_Reset (w : World) (p q : Nat) (c : Clk) (h : ClockAt w p q c) (R : Ending → World → Prop)
    (r : ∀ w', ClockAt w' p q { c with value := 0, al := List.replicate c.al.length Alm.zero } → Kept [p, q] w w' → R (.returned (.tuple #[])) w') :
    Calls Try.prog 35 #[.pointer (some ⟨p, 0, none⟩)] w (Fin R) := by
  obtain ⟨i0, hi, hz0, hz1, hz2⟩ := info_parts Try.info182
  have h0 := h.c0
  have h3 := h.c3
  have h4 := h.c4
  have f3 := h.row.free 3
  have hne := h.ne
  have hr := (h.arow.set_ne (a := ⟨p, 3, none⟩) h.ne (.int .u32 0))
  have hl := flat_length Alm.enc_length c.al
  have hl2 := flat_length Alm.enc_length (List.replicate c.al.length Alm.zero)
  have hr2 := hr.setRow ((List.replicate c.al.length Alm.zero).flatMap Alm.enc)
  have hp2 := Row.setRow_ne ((h.row.set 3 (.int .u32 0))) ((List.replicate c.al.length Alm.zero).flatMap Alm.enc).toArray h.ne
  have hk := ((Kept.refl [p, q] w).setCell (p := ⟨p, 3, none⟩) (by simp) (.int .u32 0)).setRow (g := q) (by simp) ((List.replicate c.al.length Alm.zero).flatMap Alm.enc).toArray
  have r' := r _ ⟨⟨by simpa [Clk.cells] using hp2, by simpa using hr2, h.ne⟩, by
    have f := h.wf
    refine ⟨f.m0, f.m1, f.e0, f.e1, by simp, by simp; have := f.m0; omega, by simpa using f.n, ?_⟩
    intro a ha
    simp at ha
    obtain ⟨_, rfl⟩ := ha
    have := f.m0
    exact ⟨by simp [Alm.zero], by simp [Alm.zero]; omega, by simp [Alm.zero], by simp [Alm.zero]; omega, by simp [Alm.zero], fun _ => rfl⟩⟩ hk
  have hlen : (c.al.flatMap Alm.enc).length = ((List.replicate c.al.length Alm.zero).flatMap Alm.enc).length := by rw [hl, hl2]; simp
  have hzc := zeroCells_flat Alm.enc Alm.zero c.al.length (by decide)
  have hone := oneCell_flat Alm.oneCell (List.replicate c.al.length Alm.zero)
  clear r hr2 hp2 hk hl hl2 h
  generalize (List.replicate c.al.length Alm.zero).flatMap Alm.enc = zs at *
  go_enter Try.func35, Try.ntmps35
  go_wp2_with (first | go_in | (refine wpList_clear_full rfl (.tmp 10) 171 rfl 182 i0 _ q c.al.length c.al.length rfl _ zs 182 Try.underlying171 hi hz0 hr hlen hzc hone ?_))
  go_end0
  exact r'
end Go.Proofs.Ytopgfhcgfpceaaa
