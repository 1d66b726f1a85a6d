/- The walks of package clock: Copy, Cancel, soonest. -/
import Derived.Test.YtopgfhcgfpceaaaClkE
namespace Go.Proofs.Ytopgfhcgfpceaaa
open Go.RowKit

set_option maxRecDepth 20000 in
theorem ck_Copy (w : World) (p q : Nat) (c : Clk) (h : ClockAt w p q c) (R : Ending → World → Prop)
    (r : ∀ p' q' w', w.heap.size ≤ p' → w.heap.size ≤ q' → ClockAt w' p' q' c → Kept [] w w' → R (.returned (.pointer (some ⟨p', 0, none⟩))) w') :
    Calls Try.prog 34 #[.pointer (some ⟨p, 0, none⟩)] w (Fin R) := by
  obtain ⟨i0, hi, hz0, hz1, hz2⟩ := info_parts Try.info182
  have h0 := h.c0
  have h1 := h.c1
  have h2 := h.c2
  have h3 := h.c3
  have h4 := h.c4
  have hp := h.row.lt
  have hq := h.arow.lt
  have hn := h.wf.n
  have hwf := h.wf
  have hmk : ∀ w, (Instr.makeSlice 171 (.int .i64 c.al.length) (.int .i64 c.al.length)).run Try.prog w = .ok (.slice (some ⟨w.heap.size, 0, none⟩) c.al.length c.al.length) (w.alloc (.cells ((List.replicate c.al.length Alm.zero).flatMap Alm.enc).toArray 182)) := by
    intro w
    have := run_make (P := Try.prog) w 171 182 i0 _ Try.underlying171 hi hz0 .i64 .i64 c.al.length c.al.length (by omega) (Int.le_refl _) (by rw [hz2]; omega) (by omega)
    have hzc : (Value.agg #[.bool false, .int .u64 0, .int .u32 0]).cells = Alm.zero.enc.toArray := rfl
    rw [this, hz1, hzc, Int.toNat_natCast, madeCells_flat Alm.enc Alm.zero _ 3 rfl (by omega)]
  have hlen : ((List.replicate c.al.length Alm.zero).flatMap Alm.enc).length = (c.al.flatMap Alm.enc).length := by rw [flat_length Alm.enc_length, flat_length Alm.enc_length]; simp
  have hl : (c.al.flatMap Alm.enc).length = c.al.length * i0.size := by rw [flat_length Alm.enc_length, hz1]
  have hone := oneCell_flat Alm.oneCell c.al
  have hsrc : ∀ (a b : Obj) (n : Nat), ∀ j v, (c.al.flatMap Alm.enc)[j]? = some v → (((w.alloc a).alloc b).drewN n).cell? ((⟨q, 0, none⟩ : Addr).add j) = some v := by
    intro a b n j v hj
    rw [show (⟨q, 0, none⟩ : Addr).add j = ⟨q, j, none⟩ by unfold Addr.add; split <;> simp_all]
    exact (((h.arow.alloc a).alloc b)).cell hj
  have r' := fun w' hc hk => r w.heap.size (w.heap.size + 1) w' (by omega) (by omega) ⟨hc, hwf⟩ hk
  clear r h hwf
  generalize (List.replicate c.al.length Alm.zero).flatMap Alm.enc = zs at *
  unfold RawAt at r'
  generalize c.al.flatMap Alm.enc = cs at *
  have hn2 : c.al.length ≤ 9223372036854775807 := by omega
  go_enter Try.func34, Try.ntmps34
  go_wp2
  have hQ : Row ((w.alloc (.cells #[.bool true, .int .u32 c.most, .int .u32 c.least, .int .u32 c.value, .slice (some ⟨w.heap.size + 1, 0, none⟩) c.al.length c.al.length] 173)).alloc (.cells zs.toArray 182)).drew (w.heap.size + 1) 182 zs := Row.drew (Row.new' (by simp))
  have hP : Row ((w.alloc (.cells #[.bool true, .int .u32 c.most, .int .u32 c.least, .int .u32 c.value, .slice (some ⟨w.heap.size + 1, 0, none⟩) c.al.length c.al.length] 173)).alloc (.cells zs.toArray 182)).drew w.heap.size 173 (c.cells (w.heap.size + 1)) := Row.drew (Row.alloc (Row.new' (cs := c.cells (w.heap.size + 1)) rfl) _)
  have hk := (((Kept.refl [] w).alloc (.cells #[.bool true, .int .u32 c.most, .int .u32 c.least, .int .u32 c.value, .slice (some ⟨w.heap.size + 1, 0, none⟩) c.al.length c.al.length] 173)).alloc (.cells zs.toArray 182)).drew
  have r'' := r' _ ⟨hP.setRow_ne cs.toArray (by omega), hQ.setRow cs, by omega⟩ (hk.setRow (.inr (by omega)) cs.toArray)
  clear r' hP hk
  refine still_tail 6 (by kernel_rfl) (by kernel_rfl) ?_
  simp only [List.take_succ_cons, List.take_zero, List.drop_succ_cons, List.drop_zero]
  repeat still_step
  refine wpStill_nil ?_
  refine wpList_copy_full rfl (.tmp 18) (.tmp 22) 171 171 rfl 182 i0 (w.heap.size + 1) c.al.length c.al.length c.al.length ⟨q, 0, none⟩ rfl rfl zs cs 182 Try.underlying171 hi hQ hl hlen (hsrc _ _ 1) hone ?_
  go_wp2
  go_ret
  exact r''

set_option maxRecDepth 20000 in
theorem ck_Cancel (w : World) (p q : Nat) (c : Clk) (n : Int) (h : ClockAt w p q c) (R : Ending → World → Prop)
    (r : ∀ w', ClockAt w' p q (c.cancel n).2 → Kept [q] w w' → R (.returned (.int .i64 (c.cancel n).1)) w') :
    Calls Try.prog 114 #[.pointer (some ⟨p, 0, none⟩), .int .i64 n] w (Fin R) := by
  have ho := ck_of w p q c n h
  have hp := h.row.lt
  have hq := h.arow.lt
  have hn := h.wf.n
  by_cases hs : (c.of n).2 = 0
  · have hh : c.has n = true := by
      by_cases hb : c.has n = true
      · exact hb
      · exfalso; simp [Clk.of, Bool.eq_false_iff.2 hb] at hs
    have hb : 0 ≤ n ∧ n < c.al.length := by simpa [Clk.has] using hh
    obtain ⟨hb0, hb1⟩ := hb
    have hlt : n.toNat < c.al.length := by omega
    have hget : c.al[n.toNat]? = some (c.at n) := by simp [Clk.at, hlt]
    have e1 : c.cancel n = (0, { c with al := c.al.set n.toNat Alm.zero }) := by simp [Clk.cancel, hs]
    rw [e1] at r
    rw [hs] at ho
    have zw : Alm.zero.wf c.most := by have := h.wf.m0; exact ⟨by simp [Alm.zero], by simp [Alm.zero]; omega, by simp [Alm.zero], by simp [Alm.zero]; omega, by simp [Alm.zero], fun _ => rfl⟩
    have r' := fun w' (hk : Kept [] w w') o => r _ (((h.kept hk (by simp) (by simp)).set3 hlt Alm.zero zw).kept ((Kept.refl [] _).alloc o) (by simp) (by simp)) (((((hk.mono (S' := [q]) (by simp)).setCell (by simp) _).setCell (by simp) _).setCell (by simp) _).alloc o)
    have hc := fun w' (hk : Kept [] w w') => h.kept hk (by simp) (by simp)
    generalize (c.of n).1 = x at ho
    clear e1 hs hh r h
    unfold Alm.enc at ho
    go_enter Try.func114, Try.ntmps114
    go_wp2_with (go_at_call 96; refine ho.mono ?_; rintro e w' ⟨rfl, hk⟩; have hc' := hc w' hk; have g4 := hc'.c4; have g0 := hc'.a0 hget; have g1 := hc'.a1 hget; have g2 := hc'.a2 hget; have f0 := hc'.arow.free (n.toNat * 3); have f1 := hc'.arow.free (n.toNat * 3 + 1); have f2 := hc'.arow.free (n.toNat * 3 + 2); have hp' := hc'.row.lt; have hq' := hc'.arow.lt)
    go_ret
    exact r' _ hk _
  · have e1 : c.cancel n = ((c.of n).2, c) := by simp [Clk.cancel, hs]
    rw [e1] at r
    have hs' : ((c.of n).2 == 0) = false := by simpa using hs
    have r' := fun w' (hk : Kept [] w w') o => r _ ((h.kept hk (by simp) (by simp)).kept ((Kept.refl [] w').alloc o) (by simp) (by simp)) ((hk.mono (S' := [q]) (by simp)).alloc o)
    generalize c.of n = x at *
    clear e1 hs r h
    unfold Alm.enc at ho
    go_enter Try.func114, Try.ntmps114
    go_wp2_with (go_at_call 96; refine ho.mono ?_; rintro e w' ⟨rfl, hk⟩)
    go_ret
    exact r' _ hk _

def soonStep (s : Int × Bool) (a : Alm) : Int × Bool := bif a.set then (bif s.2 then min s.1 a.left else a.left, true) else s
/-- The least that any alarm has left. -/
def soonest (l : List Alm) : Int × Bool := l.foldl soonStep (0, false)

theorem soonest_snoc (l : List Alm) (a : Alm) : soonest (l ++ [a]) = soonStep (soonest l) a := by
  simp [soonest, List.foldl_append]

theorem soonest_bd {m : Int} (hm : 0 ≤ m) (l : List Alm) (h : ∀ a ∈ l, a.wf m) : 0 ≤ (soonest l).1 ∧ (soonest l).1 ≤ m + 1 := by
  have key : ∀ (l : List Alm) (s : Int × Bool), (∀ a ∈ l, a.wf m) → 0 ≤ s.1 ∧ s.1 ≤ m + 1 → 0 ≤ (l.foldl soonStep s).1 ∧ (l.foldl soonStep s).1 ≤ m + 1 := by
    intro l
    induction l with
    | nil => intro s _ hs; exact hs
    | cons a l ih =>
      intro s hl hs
      refine ih _ (fun b hb => hl b (by simp [hb])) ?_
      have ha := hl a (by simp)
      have := ha.l0
      have := ha.l1
      unfold soonStep
      cases a.set
      · exact hs
      · cases s.2
        · simp only [cond_true, cond_false]; omega
        · simp only [cond_true]; omega
  exact key l _ h (by simp; omega)

set_option maxRecDepth 20000 in
theorem ck_soonest (w : World) (p q : Nat) (c : Clk) (h : ClockAt w p q c) (R : Ending → World → Prop)
    (r : ∀ w', Kept [] w w' → R (.returned (.tuple #[.int .u64 (soonest c.al).1, .bool (soonest c.al).2])) w') :
    Calls Try.prog 94 #[.pointer (some ⟨p, 0, none⟩)] w (Fin R) := by
  have h4 := h.c4
  have hn := h.wf.n
  have hN : c.al.length ≤ 9223372036854775807 := by omega
  go_enter Try.func94, Try.ntmps94
  go_wp2
  go_loopw [4, 5, 13] (fun v b i wr => ∃ k : Nat, k ≤ c.al.length ∧ i = .int .i64 k ∧ v = .int .u64 (soonest (c.al.take k)).1 ∧ b = .bool (soonest (c.al.take k)).2 ∧ Kept [] w wr) (fun _ _ i _ => c.al.length - (intOf i).toNat)
  case atStart => exact ⟨0, Nat.zero_le _, rfl, rfl, rfl, Kept.refl _ _⟩
  case round =>
    obtain ⟨k, hk, rfl, rfl, rfl, hK⟩ := hrel
    by_cases hlt : k < c.al.length
    · have hC := h.kept hK (by simp) (by simp)
      have hget : c.al[k]? = some c.al[k] := List.getElem?_eq_getElem hlt
      have hs := soonest_snoc (c.al.take k) c.al[k]
      rw [← List.take_succ_eq_append_getElem hlt] at hs
      have hbd := soonest_bd (by have := h.wf.m0; omega) (c.al.take k) (fun a ha => h.wf.a a (List.mem_of_mem_take ha))
      have hwa := h.wf.a _ (List.getElem_mem hlt)
      have m1 := h.wf.m1
      have a0 := hC.a0 hget
      have a1 := hC.a1 hget
      have a2 := hC.a2 hget
      have hq := hC.arow.lt
      have l0 := hwa.l0
      have l1 := hwa.l1
      obtain ⟨b0, b1⟩ := hbd
      generalize c.al[k] = a at *
      generalize soonest (c.al.take k) = x at *
      have HS := Lib.hid hs; clear hs
      have HG := Lib.hid hget; clear hget
      clear hC hwa
      obtain ⟨s, l, y⟩ := a
      obtain ⟨xv, xb⟩ := x
      dsimp only at a0 a1 a2 l0 l1 b0 b1
      cases s with
      | false =>
        go_wp2
        go_roundw
        case rel => exact ⟨k + 1, by omega, by go_num, by rw [HS.out]; rfl, by rw [HS.out]; rfl, hK.alloc _⟩
        case measure => simp [intOf]; omega
      | true =>
        cases xb with
        | false =>
          go_wp2
          go_roundw
          case rel => exact ⟨k + 1, by omega, by go_num, by rw [HS.out]; rfl, by rw [HS.out]; rfl, hK.alloc _⟩
          case measure => simp [intOf]; omega
        | true =>
          rcases Int.lt_or_le xv l with hxl | hxl
          · have e : min xv l = xv := by omega
            go_wp2
            go_roundw
            case rel => exact ⟨k + 1, by omega, by go_num, by rw [HS.out]; simp [soonStep, e]; try omega, by rw [HS.out]; rfl, hK.alloc _⟩
            case measure => simp [intOf]; omega
          · have e : min xv l = l := by omega
            go_wp2
            go_roundw
            case rel => exact ⟨k + 1, by omega, by go_num, by rw [HS.out]; simp [soonStep, e]; try omega, by rw [HS.out]; rfl, hK.alloc _⟩
            case measure => simp [intOf]; omega
    · obtain rfl : k = c.al.length := by omega
      have r' := r _ hK
      rw [List.take_length]
      clear r
      go_wp2
      go_ret2
      exact r'

end Go.Proofs.Ytopgfhcgfpceaaa
