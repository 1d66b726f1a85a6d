/- The walk of package ready: Take. -/
import Derived.Test.YtopgfhcgfpceaaaQmC
namespace Go.Proofs.Ytopgfhcgfpceaaa
open Go.RowKit

theorem ring_Take (w : World) (p q : Nat) (r : QR) (h : RingAt w p q r) (hn : r.l ≠ []) : Calls Try.prog 106 #[.pointer (some ⟨p, 0, none⟩)] w fun e w' => e = .returned (.tuple #[.int .i64 (r.l.headD 0), .int .i64 0]) ∧ RingAt w' p q r.rest ∧ Kept [p, q] w w' := by
  obtain ⟨g, h1, h2, h3, h4, h5⟩ := h
  have hl : g.items.length = g.n := g.items_length
  have h0 : 0 < g.n := by
    rw [← hl, h3]
    exact List.length_pos_iff.2 hn
  have hi := Rg.rest_items g h1.2 h0
  rw [h3] at hi
  refine (rg_Take w p q g h1 h0).mono ?_
  rintro e w' ⟨rfl, h6, h7⟩
  refine ⟨by rw [hi]; rfl, ⟨g.rest, h6, h2, ?_, h4, Nat.lt_of_lt_of_le h5 h7.size⟩, h7⟩
  show g.rest.items = r.l.tail
  rw [hi]
  rfl

theorem ring_Len (w : World) (p q : Nat) (r : QR) (h : RingAt w p q r) : Calls Try.prog 107 #[.pointer (some ⟨p, 0, none⟩)] w fun e w' => e = .returned (.int .i64 r.l.length) ∧ w = w' := by
  obtain ⟨g, h1, h2, h3, h4, h5⟩ := h
  have hl : g.items.length = g.n := g.items_length
  rw [← h3, hl]
  exact rg_Len w p q g h1

theorem q_Take_nil (w : World) : Calls Try.prog 30 #[.pointer none] w fun e w' => e = .returned (.tuple #[.agg #[.int .i64 0, .int .i64 0], .int .i64 1]) ∧ Kept [] w w' := by
  have hq := q_nil_eq
  go_enter Try.func30, Try.ntmps30
  go_wp2
  refine bodyPost_ret (v := .tuple #[.agg #[.int .i64 0, .int .i64 0], .int .i64 1]) (by simp [results, Try.results30, go_sem]) rfl ⟨rfl, (Kept.refl _ _).alloc _⟩

theorem q_Take_none (w : World) (b : Nat) (pp qq : Nat → Nat) (qs : List QR) (h : QAtB true w b pp qq qs (qbits qs)) (ht : qtop qs = none) : Calls Try.prog 30 #[.pointer (some ⟨b, 0, none⟩)] w fun e w' => e = .returned (.tuple #[.agg #[.int .i64 0, .int .i64 0], .int .i64 132]) ∧ Kept [] w w' := by
  have hq := q_some_eq
  have h' := h.kept ((Kept.refl [] w).alloc (.cells #[.int .i64 0, .int .i64 0] 61)) (by simp)
  have c0 := h'.c0
  have c65 := h'.c65
  rw [qbits_zero ht] at c65
  have hH := q_Highest_zero _ b c65
  clear h h' c65 ht
  go_enter Try.func30, Try.ntmps30
  go_wp2_with (go_at_call 99; refine hH.mono ?_; rintro e w' ⟨rfl, rfl⟩)
  refine bodyPost_ret (v := .tuple #[.agg #[.int .i64 0, .int .i64 0], .int .i64 132]) (by simp [results, Try.results30, go_sem]) rfl ⟨rfl, (Kept.refl _ _).alloc _⟩

theorem bit_out (b k : Nat) (hb : b < 2 ^ 64) (hk : k ≤ 63) (N : Nat) (hN : ∀ j, N.testBit j = (b.testBit j && !decide (k = j))) : ∃ Bk : Nat, IntKind.u64.wrap (2 ^ k) = (Bk : Int) ∧ bits .andNot .u64 (b : Int) (Bk : Int) = (N : Int) := by
  have h1 : 2 ^ k < 2 ^ 64 := Nat.pow_lt_pow_right (by omega) (by omega)
  refine ⟨2 ^ k, ?_, ?_⟩
  · have e : ((2 : Int) ^ k) = ((2 ^ k : Nat) : Int) := by simp
    rw [e]
    generalize 2 ^ k = x at *
    have : IntKind.u64.wrap (x : Int) = (x : Int) % 18446744073709551616 := rfl
    rw [this]
    omega
  · rw [u64_andNot_nat b (2 ^ k) hb h1]
    congr 1
    apply Nat.eq_of_testBit_eq
    intro j
    rw [hN, Nat.testBit_and, show 18446744073709551615 - 2 ^ k = 2 ^ 64 - (2 ^ k + 1) by omega, Nat.testBit_two_pow_sub_succ h1, Nat.testBit_two_pow]
    by_cases hj : j < 64
    · simp [hj]
    · have : b.testBit j = false := Nat.testBit_lt_two_pow (Nat.lt_of_lt_of_le hb (Nat.pow_le_pow_right (by omega) (by omega)))
      simp [this]

set_option maxHeartbeats 1000000 in
set_option maxRecDepth 100000 in
theorem q_Take_some (w : World) (b : Nat) (pp qq : Nat → Nat) (qs : List QR) (i : Nat) (r : QR) (h : QAtB true w b pp qq qs (qbits qs)) (ht : qtop qs = some i) (hi : qs[i]? = some r) :
    Calls Try.prog 30 #[.pointer (some ⟨b, 0, none⟩)] w fun e w' => e = .returned (.tuple #[.agg #[.int .i64 r.prio, .int .i64 (r.l.headD 0)], .int .i64 0]) ∧ QAtB true w' b pp qq (qs.set i r.rest) (qbits (qs.set i r.rest)) ∧ Kept [b, pp i, qq i] w w' := by
  have hq := q_some_eq
  obtain ⟨r', x, xs, e1, hxl, _⟩ := qtop_some ht
  rw [hi] at e1
  injection e1 with e1
  subst e1
  have hlog := h.wf.log ht hi
  have hwfr := h.wf.row hi
  have hlt64 := qbits_lt h.wf.r
  have hp63 := hwfr.p
  have hout := fun hh => h.wf.bits_out hi (r' := r.rest) hh
  have hsame := fun hh => qbits_same hi (r' := r.rest) rfl hh
  obtain ⟨wA, hwA⟩ : ∃ wA, wA = w.alloc (.cells #[.int .i64 0, .int .i64 0] 61) := ⟨_, rfl⟩
  have hkA : Kept [b, pp i, qq i] w wA := by rw [hwA]; exact (Kept.refl _ w).alloc _
  have hA := h.kept (by rw [hwA]; exact (Kept.refl [] w).alloc _ : Kept [] w wA) (by simp)
  have c0 := hA.c0
  have c65 := hA.c65
  have hH := q_Highest_some wA b (qbits qs) hlog.1 hlt64 c65
  rw [hlog.2] at hH
  have hck := hA.ck r.prio (by omega)
  unfold qptr at hck
  rw [h.wf.find hi] at hck
  simp only [Option.map_some] at hck
  have hT := ring_Take wA (pp i) (qq i) r (hA.ring i r hi) (by rw [hxl]; simp)
  have eqq : (fun j => if j = i then qq i else qq j) = qq := by
    funext j
    split
    · rename_i e; rw [e]
    · rfl
  have hupd := fun (w1 : World) hR1 hk1 => hA.upd (w' := w1) (q' := qq i) hi (r' := r.rest) rfl (QR.rest_wf hwfr) hR1 (.inl rfl) hk1
  rw [eqq] at hupd
  clear eqq
  have hfoot : ∀ x ∈ qfoot b pp qq (qs.set i r.rest).length, x ∉ [w.heap.size] := by
    intro x hx
    have hb := h.row.lt
    rcases mem_qfoot.1 hx with rfl | ⟨j, hj, hx⟩
    · simp; omega
    · rw [List.length_set] at hj
      have := (h.ring j _ (List.getElem?_eq_getElem hj)).lt
      simp
      omega
  have hfind : qfind (qs.set i r.rest) r.prio = some i := by rw [qfind_set (r' := r.rest) hi rfl]; exact h.wf.find hi
  have hrl : r.rest.l = xs := by show r.l.tail = xs; rw [hxl]; rfl
  have hx0 : r.l.headD 0 = x := by rw [hxl]; rfl
  rw [hx0] at hT ⊢
  have hp64 : (r.prio : Int) < 64 := by omega
  have hb0 := h.row.lt
  have hpq := (h.ring i r hi).lt
  have hil := (List.getElem?_eq_some_iff.1 hi).1
  have hres := fun (w1 : World) (hk1 : Kept [pp i, qq i] wA w1) => (show Row wA w.heap.size 61 [.int .i64 0, .int .i64 0] by rw [hwA]; exact Row.new' rfl).kept hk1 (by simp; omega)
  have hbn : b ≠ w.heap.size := by omega
  have hbn2 : w.heap.size ≠ b := by omega
  clear hx0 hA h hi ht hlog
  subst hwA
  by_cases hx : xs = []
  · rw [hx] at hrl
    obtain ⟨Bk, hv, hor⟩ := bit_out (qbits qs) r.prio hlt64 hp63 _ (hout hrl)
    generalize hN : qbits (qs.set i r.rest) = N at *
    have HN := Lib.hid hN
    have HF := Lib.hid hfind
    have HL := Lib.hid hrl
    clear hN hout hsame hxl hx hfind hrl
    go_enter Try.func30, Try.ntmps30
    go_wp2_with (first | (go_at_call 99; refine hH.mono ?_; rintro e w' ⟨rfl, rfl⟩) | (go_at_call 106; refine hT.mono ?_; rintro e w1 ⟨rfl, hR1, hk1⟩; have hQ := hupd w1 hR1 hk1; have e65 := hQ.c65; have f65 := hQ.row.free 65; have ek := hQ.ck r.prio (by omega); unfold qptr at ek; rw [HF.out] at ek; simp only [Option.map_some] at ek; have hLn := ring_Len w1 (pp i) (qq i) r.rest hR1; rw [HL.out] at hLn; simp only [List.length_nil] at hLn; have HQ := Lib.hid hQ; clear hQ hR1; have hre := hres w1 hk1; have r0 := hre.cell (i := 0) rfl; have r1 := hre.cell (i := 1) rfl; have g0 := hre.free 0; have g1 := hre.free 1; clear hre) | (go_at_call 107; refine hLn.mono ?_; rintro e w2 ⟨rfl, rfl⟩))
    refine still_tail 7 (by kernel_rfl) (by kernel_rfl) ?_
    simp only [List.take_succ_cons, List.take_zero, List.drop_succ_cons, List.drop_zero]
    repeat still_step
    refine wpStill_nil ?_
    go_wp2
    refine bodyPost_ret (v := .tuple #[.agg #[.int .i64 r.prio, .int .i64 x], .int .i64 0]) (by simp [results, Try.results30, go_sem, r0, r1]) rfl ⟨rfl, ?_, ?_⟩
    · exact (HQ.out.setBits N).kept ((((Kept.refl [w.heap.size] _).setCell (by simp) _).setCell (by simp) _).drew) hfoot
    · exact ((((hkA.then hk1 (by intro x hx; exact .inl (List.mem_cons_of_mem _ hx))).setCell (by simp) _).setCell (.inr (Nat.le_refl _)) _).setCell (.inr (Nat.le_refl _)) _).drew
  · have hsm := hsame (by rw [hrl, hxl]; cases xs with | nil => exact absurd rfl hx | cons => rfl)
    have hlz : ((xs.length : Int) == 0) = false := beq_eq_false_iff_ne.2 (by have := List.length_pos_iff.2 hx; omega)
    rw [hsm]
    have HF := Lib.hid hfind
    have HL := Lib.hid hrl
    clear hout hsame hxl hx hfind hrl hsm
    go_enter Try.func30, Try.ntmps30
    go_wp2_with (first | (go_at_call 99; refine hH.mono ?_; rintro e w' ⟨rfl, rfl⟩) | (go_at_call 106; refine hT.mono ?_; rintro e w1 ⟨rfl, hR1, hk1⟩; have hQ := hupd w1 hR1 hk1; have e65 := hQ.c65; have f65 := hQ.row.free 65; have ek := hQ.ck r.prio (by omega); unfold qptr at ek; rw [HF.out] at ek; simp only [Option.map_some] at ek; have hLn := ring_Len w1 (pp i) (qq i) r.rest hR1; rw [HL.out] at hLn; have HQ := Lib.hid hQ; clear hQ hR1; have hre := hres w1 hk1; have r0 := hre.cell (i := 0) rfl; have r1 := hre.cell (i := 1) rfl; have g0 := hre.free 0; have g1 := hre.free 1; clear hre) | (go_at_call 107; refine hLn.mono ?_; rintro e w2 ⟨rfl, rfl⟩))
    refine bodyPost_ret (v := .tuple #[.agg #[.int .i64 r.prio, .int .i64 x], .int .i64 0]) (by simp [results, Try.results30, go_sem, r0, r1]) rfl ⟨rfl, ?_, ?_⟩
    · exact HQ.out.kept (((Kept.refl [w.heap.size] _).setCell (by simp) _).setCell (by simp) _) hfoot
    · exact ((hkA.then hk1 (by intro x hx; exact .inl (List.mem_cons_of_mem _ hx))).setCell (.inr (Nat.le_refl _)) _).setCell (.inr (Nat.le_refl _)) _

/-- Take, over every queue. -/
theorem q_Take (w : World) (F : List Nat) (b : Nat) (qs : List QR) (h : QS w F b qs) : Calls Try.prog 30 #[.pointer (some ⟨b, 0, none⟩)] w fun e w' => e = .returned (.tuple #[.agg #[.int .i64 (qtake qs).1.1, .int .i64 (qtake qs).1.2.1], .int .i64 (qtake qs).1.2.2]) ∧ QStep w F b (qtake qs).2 w' := by
  obtain ⟨⟨pp, qq, h1, h2⟩, h3⟩ := h
  cases ht : qtop qs with
  | none =>
    rw [qtake_none ht]
    refine (q_Take_none w b pp qq qs h1 ht).mono ?_
    rintro e w' ⟨rfl, hk⟩
    exact ⟨rfl, QS.step ⟨⟨pp, qq, h1, h2⟩, h3⟩ hk⟩
  | some i =>
    obtain ⟨r, x, xs, hi, _⟩ := qtop_some ht
    have hl := (List.getElem?_eq_some_iff.1 hi).1
    rw [qtake_some ht hi]
    refine (q_Take_some w b pp qq qs i r h1 ht hi).mono ?_
    rintro e w' ⟨rfl, h5, h6⟩
    refine ⟨rfl, QAtB.step (i := i) (q' := qq i) ⟨pp, qq, h1, h2, .inl rfl, ?_, h6⟩ hl (List.length_set ..)⟩
    have eqq : (fun j => if j = i then qq i else qq j) = qq := by
      funext j
      split
      · rename_i e; rw [e]
      · rfl
    rw [eqq]
    exact h5
end Go.Proofs.Ytopgfhcgfpceaaa
