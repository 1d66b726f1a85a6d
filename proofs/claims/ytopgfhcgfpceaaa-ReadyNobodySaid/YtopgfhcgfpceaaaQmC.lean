/- The walk of package ready: Head. -/
import Derived.Test.YtopgfhcgfpceaaaQmB
namespace Go.Proofs.Ytopgfhcgfpceaaa
open Go.RowKit

set_option maxRecDepth 100000 in
theorem q_put_First (w : World) (b : Nat) (pp qq : Nat → Nat) (qs : List QR) (k : Nat) (id : Int) (i : Nat) (r : QR) (h : QAtB true w b pp qq qs (qbits qs)) (hi : qs[i]? = some r) (hk : r.prio = k) (hn : r.l.length < r.cap) :
    Calls Try.prog 100 #[.pointer (some ⟨b, 0, none⟩), .int .i64 k, .int .i64 id, .func (.func 128) #[] #[]] w fun e w' => e = .returned (.int .i64 0) ∧ (∃ q', (q' = qq i ∨ q' = pp i ∨ w.heap.size ≤ q') ∧ QAtB true w' b pp (fun j => if j = i then q' else qq j) (qs.set i (r.put true id)) (qbits (qs.set i (r.put true id)))) ∧ Kept [b, pp i, qq i] w w' := by
  have hq := q_some_eq
  have hr := r_some_eq
  have c0 := h.c0
  have ha := q_at w b pp qq qs (qbits qs) k h
  unfold qptr at ha
  rw [← hk, h.wf.find hi, hk] at ha
  simp only [Option.map_some] at ha
  have hL := ring_First w (pp i) (qq i) r id (h.ring i r hi) hn
  have hbits := h.wf.bits_put hi (r' := r.put true id) rfl (QR.put_wf (h.wf.row hi) hn) QR.put_ne
  have hkb := (h.wf.row hi).p
  rw [hk] at hkb hbits
  have hk2 : (k : Int) < 64 := by omega
  obtain ⟨Bk, hv, hor⟩ := bit_put (qbits qs) k (qbits_lt h.wf.r) hkb
  rw [← hbits] at hor
  generalize hN : qbits (qs.set i (r.put true id)) = N at *
  go_enter Try.func100, Try.ntmps100
  go_wp2_with (first | (go_at_call 104; refine ha.mono ?_; rintro e w' ⟨rfl, rfl⟩) | (go_at_call 128; refine hL.mono ?_; rintro e w1 ⟨rfl, ⟨q', hq', h1⟩, hk1⟩))
  have hQ := h.upd hi (r' := r.put true id) rfl (QR.put_wf (h.wf.row hi) hn) h1 hq' hk1
  have c65 := hQ.c65
  have f65 := hQ.row.free 65
  have HQ := Lib.hid hQ
  clear h hq hr c0 ha hL hi hk hbits hN hQ
  refine still_tail 7 (by kernel_rfl) (by kernel_rfl) ?_
  simp only [List.take_succ_cons, List.take_zero, List.drop_succ_cons, List.drop_zero]
  repeat still_step
  refine wpStill_nil ?_
  go_wp2
  go_ret
  exact ⟨rfl, ⟨q', hq', (HQ.out.setBits N).kept ((Kept.refl [] _).drew) (by simp)⟩, ((hk1.mono (by simp)).setCell (by simp) _).drew⟩

theorem q_full_First (w : World) (b : Nat) (pp qq : Nat → Nat) (qs : List QR) (k : Nat) (id : Int) (i : Nat) (r : QR) (h : QAtB true w b pp qq qs (qbits qs)) (hi : qs[i]? = some r) (hk : r.prio = k) (hn : r.cap ≤ r.l.length) :
    Calls Try.prog 100 #[.pointer (some ⟨b, 0, none⟩), .int .i64 k, .int .i64 id, .func (.func 128) #[] #[]] w fun e w' => e = .returned (.int .i64 131) ∧ ∃ n, w' = w.drewN n := by
  have hq := q_some_eq
  have hr := r_some_eq
  have c0 := h.c0
  have ha := q_at w b pp qq qs (qbits qs) k h
  unfold qptr at ha
  rw [← hk, h.wf.find hi, hk] at ha
  simp only [Option.map_some] at ha
  have hL := ring_First_full w (pp i) (qq i) r id (h.ring i r hi) hn
  clear h hi hk hn
  go_enter Try.func100, Try.ntmps100
  go_wp2_with (first | (go_at_call 104; refine ha.mono ?_; rintro e w' ⟨rfl, rfl⟩) | (go_at_call 128; refine hL.mono ?_; rintro e w1 ⟨rfl, n, rfl⟩))
  go_ret
  exact ⟨rfl, _, rfl⟩

/-- Head, over every queue. -/
theorem q_Head (w : World) (F : List Nat) (b : Nat) (qs : List QR) (p id : Int) (h : QS w F b qs) : Calls Try.prog 41 #[.pointer (some ⟨b, 0, none⟩), .int .i64 p, .int .i64 id] w fun e w' => e = .returned (.int .i64 (qput true qs p id).1) ∧ QStep w F b (qput true qs p id).2 w' := by
  have hput : Calls Try.prog 100 #[.pointer (some ⟨b, 0, none⟩), .int .i64 p, .int .i64 id, .func (.func 128) #[] #[]] w fun e w' => e = .returned (.int .i64 (qput true qs p id).1) ∧ QStep w F b (qput true qs p id).2 w' := by
    obtain ⟨⟨pp, qq, h1, h2⟩, h3⟩ := h
    cases hf : qfind qs p with
    | none =>
      rw [qput_none hf]
      refine (q_put_none w b pp qq qs _ p id _ h1 hf).mono ?_
      rintro e w' ⟨rfl, rfl⟩
      exact ⟨rfl, QS.step ⟨⟨pp, qq, h1, h2⟩, h3⟩ (Kept.refl _ _)⟩
    | some i =>
      obtain ⟨r, hi, hp⟩ := qfind_some hf
      subst hp
      have hl := (List.getElem?_eq_some_iff.1 hi).1
      by_cases hc : r.cap ≤ r.l.length
      · rw [qput_full hf hi hc]
        refine (q_full_First w b pp qq qs _ id i r h1 hi rfl hc).mono ?_
        rintro e w' ⟨rfl, n, rfl⟩
        exact ⟨rfl, QS.step ⟨⟨pp, qq, h1, h2⟩, h3⟩ (Kept.drewN _ _ _)⟩
      · rw [qput_some hf hi (by omega)]
        refine (q_put_First w b pp qq qs _ id i r h1 hi rfl (by omega)).mono ?_
        rintro e w' ⟨rfl, ⟨q', h4, h5⟩, h6⟩
        exact ⟨rfl, QAtB.step (i := i) (q' := q') ⟨pp, qq, h1, h2, h4, h5, h6⟩ hl (List.length_set ..)⟩
  generalize qput true qs p id = x at *
  clear h
  go_enter Try.func41, Try.ntmps41
  go_wp2_with (go_at_call 100; refine hput.mono ?_; rintro e w' ⟨rfl, hs⟩)
  go_ret
  exact ⟨rfl, hs⟩

theorem q_Head_nil (w : World) (p id : Int) : Calls Try.prog 41 #[.pointer none, .int .i64 p, .int .i64 id] w fun e w' => e = .returned (.int .i64 1) ∧ w = w' := by
  go_enter Try.func41, Try.ntmps41
  go_wp2_with (go_at_call 100; refine (q_put_nil _ _ _ _).mono ?_; rintro e w' ⟨rfl, rfl⟩)
  go_ret
  exact ⟨rfl, rfl⟩
end Go.Proofs.Ytopgfhcgfpceaaa
