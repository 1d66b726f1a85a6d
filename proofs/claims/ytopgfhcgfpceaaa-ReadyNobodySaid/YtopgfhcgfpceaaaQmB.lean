/- The walk of package ready: put, Tail, Head. -/
import Derived.Test.YtopgfhcgfpceaaaQmA
namespace Go.Proofs.Ytopgfhcgfpceaaa
open Go.RowKit

/-- What a call that puts an id into a ring leaves. -/
def RPut (w : World) (p q : Nat) (r : QR) (e : Ending) (w' : World) : Prop := e = .returned (.int .i64 0) ∧ (∃ q', (q' = q ∨ q' = p ∨ w.heap.size ≤ q') ∧ RingAt w' p q' r) ∧ Kept [p, q] w w'

theorem RgPut.ring {w : World} {p q : Nat} {g : Rg} {r : QR} {e : Ending} {w' : World} (h : RgPut w p q g e w') (h2 : g.room = r.cap) (h3 : g.items = r.l) (h4 : g.high = r.high) : RPut w p q r e w' := by
  obtain ⟨h5, ⟨q', h6, h7⟩, h8⟩ := h
  obtain ⟨q2, h9, h10⟩ := RingAt.of h7 h2 h3 h4
  exact ⟨h5, ⟨q2, by omega, h10⟩, h8⟩

theorem ring_Last (w : World) (p q : Nat) (r : QR) (id : Int) (h : RingAt w p q r) (hn : r.l.length < r.cap) : Calls Try.prog 101 #[.pointer (some ⟨p, 0, none⟩), .int .i64 id] w (RPut w p q (r.put false id)) := by
  obtain ⟨g, h1, h2, h3, h4, h5⟩ := h
  have hl : g.items.length = g.n := g.items_length
  rw [h3] at hl
  have hlt := Rg.space_lt h1.2 (by omega)
  refine (rg_Last w p q g id h1 (by omega)).mono fun e w' hh => hh.ring ?_ ?_ ?_
  · show g.space.room = r.cap
    rw [Rg.space_room, h2]
  · rw [Rg.push_items _ _ (by rw [Rg.space_n]; exact hlt), Rg.space_items, h3]; rfl
  · show max g.space.high (g.space.n + 1) = max r.high (r.l.length + 1)
    rw [Rg.space_high, Rg.space_n, h4, hl]

theorem ring_First (w : World) (p q : Nat) (r : QR) (id : Int) (h : RingAt w p q r) (hn : r.l.length < r.cap) : Calls Try.prog 128 #[.pointer (some ⟨p, 0, none⟩), .int .i64 id] w (RPut w p q (r.put true id)) := by
  obtain ⟨g, h1, h2, h3, h4, h5⟩ := h
  have hl : g.items.length = g.n := g.items_length
  rw [h3] at hl
  have hlt := Rg.space_lt h1.2 (by omega)
  refine (rg_First w p q g id h1 (by omega)).mono fun e w' hh => hh.ring ?_ ?_ ?_
  · show g.space.room = r.cap
    rw [Rg.space_room, h2]
  · rw [Rg.front_items _ _ (by rw [Rg.space_n]; exact hlt), Rg.space_items, h3]; rfl
  · show max g.space.high (g.space.n + 1) = max r.high (r.l.length + 1)
    rw [Rg.space_high, Rg.space_n, h4, hl]

theorem ring_Last_full (w : World) (p q : Nat) (r : QR) (id : Int) (h : RingAt w p q r) (hn : r.cap ≤ r.l.length) : Calls Try.prog 101 #[.pointer (some ⟨p, 0, none⟩), .int .i64 id] w fun e w' => e = .returned (.int .i64 121) ∧ ∃ n, w' = w.drewN n := by
  obtain ⟨g, h1, h2, h3, h4, h5⟩ := h
  have hl : g.items.length = g.n := g.items_length
  rw [h3] at hl
  exact rg_Last_full w p q g id h1 (by omega)

theorem ring_First_full (w : World) (p q : Nat) (r : QR) (id : Int) (h : RingAt w p q r) (hn : r.cap ≤ r.l.length) : Calls Try.prog 128 #[.pointer (some ⟨p, 0, none⟩), .int .i64 id] w fun e w' => e = .returned (.int .i64 121) ∧ ∃ n, w' = w.drewN n := by
  obtain ⟨g, h1, h2, h3, h4, h5⟩ := h
  have hl : g.items.length = g.n := g.items_length
  rw [h3] at hl
  exact rg_First_full w p q g id h1 (by omega)

theorem r_nil_eq (w : World) : (binOp .eql 90 (.pointer none) (.pointer none)).run Try.prog w = .ok (.bool true) w := by kernel_rfl
theorem r_some_eq (w : World) (b : Nat) : (binOp .eql 90 (.pointer (some ⟨b, 0, none⟩)) (.pointer none)).run Try.prog w = .ok (.bool false) w := by kernel_rfl

theorem q_put_nil (w : World) (p id : Int) (f : Value) : Calls Try.prog 100 #[.pointer none, .int .i64 p, .int .i64 id, f] w fun e w' => e = .returned (.int .i64 1) ∧ w = w' := by
  have hq := q_nil_eq
  go_enter Try.func100, Try.ntmps100
  go_wp2
  go_ret
  exact ⟨rfl, rfl⟩

theorem q_put_none (w : World) (b : Nat) (pp qq : Nat → Nat) (qs : List QR) (bits : Nat) (p id : Int) (f : Value) (h : QAtB true w b pp qq qs bits) (hf : qfind qs p = none) : Calls Try.prog 100 #[.pointer (some ⟨b, 0, none⟩), .int .i64 p, .int .i64 id, f] w fun e w' => e = .returned (.int .i64 130) ∧ w = w' := by
  have hq := q_some_eq
  have hr := r_nil_eq
  have c0 := h.c0
  have ha := q_at w b pp qq qs bits p h
  unfold qptr at ha
  rw [hf] at ha
  simp only [Option.map_none] at ha
  clear h hf
  go_enter Try.func100, Try.ntmps100
  go_wp2_with (go_at_call 104; refine ha.mono ?_; rintro e w' ⟨rfl, rfl⟩)
  go_ret
  exact ⟨rfl, rfl⟩

set_option maxHeartbeats 1000000 in
theorem bit_put (b k : Nat) (hb : b < 2 ^ 64) (hk : k ≤ 63) : ∃ Bk : Nat, IntKind.u64.wrap (2 ^ k) = (Bk : Int) ∧ bits .or .u64 (b : Int) (Bk : Int) = ((b ||| 2 ^ k : Nat) : Int) := by
  have h1 : 2 ^ k < 2 ^ 64 := Nat.pow_lt_pow_right (by omega) (by omega)
  refine ⟨2 ^ k, ?_, u64_or_nat b (2 ^ k) hb h1⟩
  have e : ((2 : Int) ^ k) = ((2 ^ k : Nat) : Int) := by simp
  rw [e]
  generalize 2 ^ k = x at *
  have : IntKind.u64.wrap (x : Int) = (x : Int) % 18446744073709551616 := rfl
  rw [this]
  omega

/-- A queue, one row of which has been written. -/
theorem QAtB.step {w w' : World} {F : List Nat} {b : Nat} {qs qs' : List QR} {i q' : Nat} (h : ∃ pp qq, QAtB true w b pp qq qs (qbits qs) ∧ (∀ x ∈ qfoot b pp qq qs.length, x ∈ F) ∧ (q' = qq i ∨ q' = pp i ∨ w.heap.size ≤ q') ∧ QAtB true w' b pp (fun j => if j = i then q' else qq j) qs' (qbits qs') ∧ Kept [b, pp i, qq i] w w')
    (hl : i < qs.length) (hlen : qs'.length = qs.length) : QStep w F b qs' w' := by
  obtain ⟨pp, qq, h1, h2, h4, h5, h6⟩ := h
  have hF : ∀ x, x = b ∨ (∃ j, j < qs.length ∧ (x = pp j ∨ x = qq j)) → x ∈ F := fun x hx => h2 x (mem_qfoot.2 hx)
  refine ⟨h6.mono fun x hx => ?_, qfoot b pp (fun j => if j = i then q' else qq j) qs'.length, ⟨⟨pp, _, h5, fun x hx => hx⟩, fun x hx => ?_⟩, fun x hx => ?_⟩
  · simp only [List.mem_cons, List.not_mem_nil, or_false] at hx
    rcases hx with rfl | rfl | rfl
    · exact hF _ (.inl rfl)
    · exact hF _ (.inr ⟨i, hl, .inl rfl⟩)
    · exact hF _ (.inr ⟨i, hl, .inr rfl⟩)
  · rcases mem_qfoot.1 hx with rfl | ⟨j, hj, hx⟩
    · exact h5.row.lt
    · have := (h5.ring j _ (List.getElem?_eq_getElem hj)).lt
      rcases hx with rfl | rfl
      · exact this.1
      · exact this.2
  · rcases mem_qfoot.1 hx with rfl | ⟨j, hj, hx⟩
    · exact .inl (hF _ (.inl rfl))
    · rw [hlen] at hj
      rcases hx with rfl | hx
      · exact .inl (hF _ (.inr ⟨j, hj, .inl rfl⟩))
      · by_cases e : j = i
        · subst e
          simp only [if_true] at hx
          rcases h4 with h4 | h4 | h4
          · exact .inl (hF _ (.inr ⟨j, hj, .inr (hx.trans h4)⟩))
          · exact .inl (hF _ (.inr ⟨j, hj, .inl (hx.trans h4)⟩))
          · exact .inr (by omega)
        · simp only [e, if_false] at hx
          exact .inl (hF _ (.inr ⟨j, hj, .inr hx⟩))

set_option maxRecDepth 100000 in
theorem q_put_Last (w : World) (b : Nat) (pp qq : Nat → Nat) (qs : List QR) (k : Nat) (id : Int) (i : Nat) (r : QR) (h : QAtB true w b pp qq qs (qbits qs)) (hi : qs[i]? = some r) (hk : r.prio = k) (hn : r.l.length < r.cap) :
    Calls Try.prog 100 #[.pointer (some ⟨b, 0, none⟩), .int .i64 k, .int .i64 id, .func (.func 101) #[] #[]] w fun e w' => e = .returned (.int .i64 0) ∧ (∃ q', (q' = qq i ∨ q' = pp i ∨ w.heap.size ≤ q') ∧ QAtB true w' b pp (fun j => if j = i then q' else qq j) (qs.set i (r.put false id)) (qbits (qs.set i (r.put false id)))) ∧ Kept [b, pp i, qq i] w w' := by
  have hq := q_some_eq
  have hr := r_some_eq
  have c0 := h.c0
  have ha := q_at w b pp qq qs (qbits qs) k h
  unfold qptr at ha
  rw [← hk, h.wf.find hi, hk] at ha
  simp only [Option.map_some] at ha
  have hL := ring_Last w (pp i) (qq i) r id (h.ring i r hi) hn
  have hbits := h.wf.bits_put hi (r' := r.put false id) rfl (QR.put_wf (h.wf.row hi) hn) QR.put_ne
  have hkb := (h.wf.row hi).p
  rw [hk] at hkb hbits
  have hk2 : (k : Int) < 64 := by omega
  obtain ⟨Bk, hv, hor⟩ := bit_put (qbits qs) k (qbits_lt h.wf.r) hkb
  rw [← hbits] at hor
  generalize hN : qbits (qs.set i (r.put false id)) = N at *
  go_enter Try.func100, Try.ntmps100
  go_wp2_with (first | (go_at_call 104; refine ha.mono ?_; rintro e w' ⟨rfl, rfl⟩) | (go_at_call 101; refine hL.mono ?_; rintro e w1 ⟨rfl, ⟨q', hq', h1⟩, hk1⟩))
  have hQ := h.upd hi (r' := r.put false id) rfl (QR.put_wf (h.wf.row hi) hn) h1 hq' hk1
  have c65 := hQ.c65
  have f65 := hQ.row.free 65
  have HQ := Lib.hid hQ
  clear h hq hr c0 ha hL hi hk hbits hN hQ
  refine still_tail 7 (by kernel_rfl) (by kernel_rfl) ?_
  simp only [List.take_succ_cons, List.take_zero, List.drop_succ_cons, List.drop_zero]
  repeat still_step
  refine wpStill_nil ?_
  go_wp2
  go_ret
  exact ⟨rfl, ⟨q', hq', (HQ.out.setBits N).kept ((Kept.refl [] _).drew) (by simp)⟩, ((hk1.mono (by simp)).setCell (by simp) _).drew⟩

theorem q_full_Last (w : World) (b : Nat) (pp qq : Nat → Nat) (qs : List QR) (k : Nat) (id : Int) (i : Nat) (r : QR) (h : QAtB true w b pp qq qs (qbits qs)) (hi : qs[i]? = some r) (hk : r.prio = k) (hn : r.cap ≤ r.l.length) :
    Calls Try.prog 100 #[.pointer (some ⟨b, 0, none⟩), .int .i64 k, .int .i64 id, .func (.func 101) #[] #[]] w fun e w' => e = .returned (.int .i64 131) ∧ ∃ n, w' = w.drewN n := by
  have hq := q_some_eq
  have hr := r_some_eq
  have c0 := h.c0
  have ha := q_at w b pp qq qs (qbits qs) k h
  unfold qptr at ha
  rw [← hk, h.wf.find hi, hk] at ha
  simp only [Option.map_some] at ha
  have hL := ring_Last_full w (pp i) (qq i) r id (h.ring i r hi) hn
  clear h hi hk hn
  go_enter Try.func100, Try.ntmps100
  go_wp2_with (first | (go_at_call 104; refine ha.mono ?_; rintro e w' ⟨rfl, rfl⟩) | (go_at_call 101; refine hL.mono ?_; rintro e w1 ⟨rfl, n, rfl⟩))
  go_ret
  exact ⟨rfl, _, rfl⟩

/-- Tail, over every queue. -/
theorem q_Tail (w : World) (F : List Nat) (b : Nat) (qs : List QR) (p id : Int) (h : QS w F b qs) : Calls Try.prog 26 #[.pointer (some ⟨b, 0, none⟩), .int .i64 p, .int .i64 id] w fun e w' => e = .returned (.int .i64 (qput false qs p id).1) ∧ QStep w F b (qput false qs p id).2 w' := by
  have hput : Calls Try.prog 100 #[.pointer (some ⟨b, 0, none⟩), .int .i64 p, .int .i64 id, .func (.func 101) #[] #[]] w fun e w' => e = .returned (.int .i64 (qput false qs p id).1) ∧ QStep w F b (qput false qs p id).2 w' := by
    obtain ⟨⟨pp, qq, h1, h2⟩, h3⟩ := h
    cases hf : qfind qs p with
    | none =>
      rw [qput_none hf]
      refine (q_put_none w b pp qq qs _ p id _ h1 hf).mono ?_
      rintro e w' ⟨rfl, rfl⟩
      exact ⟨rfl, QS.step ⟨⟨pp, qq, h1, h2⟩, h3⟩ (Kept.refl _ _)⟩
    | some i =>
      obtain ⟨r, hi, hp⟩ := qfind_some hf
      subst hp
      have hl := (List.getElem?_eq_some_iff.1 hi).1
      by_cases hc : r.cap ≤ r.l.length
      · rw [qput_full hf hi hc]
        refine (q_full_Last w b pp qq qs _ id i r h1 hi rfl hc).mono ?_
        rintro e w' ⟨rfl, n, rfl⟩
        exact ⟨rfl, QS.step ⟨⟨pp, qq, h1, h2⟩, h3⟩ (Kept.drewN _ _ _)⟩
      · rw [qput_some hf hi (by omega)]
        refine (q_put_Last w b pp qq qs _ id i r h1 hi rfl (by omega)).mono ?_
        rintro e w' ⟨rfl, ⟨q', h4, h5⟩, h6⟩
        exact ⟨rfl, QAtB.step (i := i) (q' := q') ⟨pp, qq, h1, h2, h4, h5, h6⟩ hl (List.length_set ..)⟩
  generalize qput false qs p id = x at *
  clear h
  go_enter Try.func26, Try.ntmps26
  go_wp2_with (go_at_call 100; refine hput.mono ?_; rintro e w' ⟨rfl, hs⟩)
  go_ret
  exact ⟨rfl, hs⟩

theorem q_Tail_nil (w : World) (p id : Int) : Calls Try.prog 26 #[.pointer none, .int .i64 p, .int .i64 id] w fun e w' => e = .returned (.int .i64 1) ∧ w = w' := by
  go_enter Try.func26, Try.ntmps26
  go_wp2_with (go_at_call 100; refine (q_put_nil _ _ _ _).mono ?_; rintro e w' ⟨rfl, rfl⟩)
  go_ret
  exact ⟨rfl, rfl⟩
end Go.Proofs.Ytopgfhcgfpceaaa
