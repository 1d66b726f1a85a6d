/- The laws of ready: a queue that no call made. -/
import Derived.Test.YtopgfhcgfpceaaaLrB
namespace Go.Proofs.Ytopgfhcgfpceaaa
open Go.RowKit Go.Shelf

theorem q_put_un (w : World) (b : Nat) (p id : Int) (f : Value) (hc : w.cell? ⟨b, 0, none⟩ = some (.bool false)) : Calls Try.prog 100 #[.pointer (some ⟨b, 0, none⟩), .int .i64 p, .int .i64 id, f] w fun e w' => e = .returned (.int .i64 1) ∧ w = w' := by
  have hq := q_some_eq
  go_enter Try.func100, Try.ntmps100
  go_wp2
  go_ret
  exact ⟨rfl, rfl⟩

theorem q_Tail_un (w : World) (b : Nat) (p id : Int) (hc : w.cell? ⟨b, 0, none⟩ = some (.bool false)) : Calls Try.prog 26 #[.pointer (some ⟨b, 0, none⟩), .int .i64 p, .int .i64 id] w fun e w' => e = .returned (.int .i64 1) ∧ w = w' := by
  have hp := fun f => q_put_un w b p id f hc
  clear hc
  go_enter Try.func26, Try.ntmps26
  go_wp2_with (go_at_call 100; refine (hp _).mono ?_; rintro e w' ⟨rfl, rfl⟩)
  go_ret
  exact ⟨rfl, rfl⟩

theorem q_Head_un (w : World) (b : Nat) (p id : Int) (hc : w.cell? ⟨b, 0, none⟩ = some (.bool false)) : Calls Try.prog 41 #[.pointer (some ⟨b, 0, none⟩), .int .i64 p, .int .i64 id] w fun e w' => e = .returned (.int .i64 1) ∧ w = w' := by
  have hp := fun f => q_put_un w b p id f hc
  clear hc
  go_enter Try.func41, Try.ntmps41
  go_wp2_with (go_at_call 100; refine (hp _).mono ?_; rintro e w' ⟨rfl, rfl⟩)
  go_ret
  exact ⟨rfl, rfl⟩

theorem q_Take_un (w : World) (b : Nat) (hb : b < w.heap.size) (hc : w.cell? ⟨b, 0, none⟩ = some (.bool false)) : Calls Try.prog 30 #[.pointer (some ⟨b, 0, none⟩)] w fun e w' => e = .returned (.tuple #[.agg #[.int .i64 0, .int .i64 0], .int .i64 1]) ∧ Kept [] w w' := by
  have hq := q_some_eq
  have hbn : b ≠ w.heap.size := by omega
  go_enter Try.func30, Try.ntmps30
  go_wp2
  refine bodyPost_ret (v := .tuple #[.agg #[.int .i64 0, .int .i64 0], .int .i64 1]) (by simp [results, Try.results30, go_sem]) rfl ⟨rfl, (Kept.refl _ _).alloc _⟩

theorem q_Copy_un (w : World) (b : Nat) (hc : w.cell? ⟨b, 0, none⟩ = some (.bool false)) : Calls Try.prog 48 #[.pointer (some ⟨b, 0, none⟩)] w fun e w' => e = .returned (.pointer none) ∧ w = w' := by
  have hq := q_some_eq
  go_enter Try.func48, Try.ntmps48
  go_wp2
  go_ret
  exact ⟨rfl, rfl⟩

theorem queued_eq (w : World) (a b c d : Int) : (binOp .eql 61 (.agg #[.int .i64 a, .int .i64 b]) (.agg #[.int .i64 c, .int .i64 d])).run Try.prog w = .ok (.bool (a == c && b == d)) w := by
  obtain ⟨f, g, e, n1, n2, t1, t2, o1, o2⟩ : ∃ f g, (Try.prog.fieldsOf 61).toList = [f, g] ∧ f.name = "Priority" ∧ g.name = "ID" ∧ f.type = 3 ∧ g.type = 3 ∧ f.offset = 0 ∧ g.offset = 1 := ⟨(Try.prog.fieldsOf 61)[0]!, (Try.prog.fieldsOf 61)[1]!, by kernel_rfl, by kernel_rfl, by kernel_rfl, by kernel_rfl, by kernel_rfl, by kernel_rfl, by kernel_rfl⟩
  have p1 : ∀ a b, (part 3 #[.int .i64 a, .int .i64 b] 0).run Try.prog w = .ok (.int .i64 a) w := fun a b => by kernel_rfl
  have p2 : ∀ a b, (part 3 #[.int .i64 a, .int .i64 b] 1).run Try.prog w = .ok (.int .i64 b) w := fun a b => by kernel_rfl
  have h1 := fun a b => run_equalIn_int (P := Try.prog) w 9998 3 .i64 .i64 a b (by kernel_rfl)
  rw [run_eql_struct, run_equalIn_struct (P := Try.prog) w 9999 _ _ _ (by kernel_rfl) (by kernel_rfl), e]
  by_cases hac : (a == c) = true
  · by_cases hbd : b = d
    · simp [Op.eqFields, p1, p2, h1, n1, n2, t1, t2, o1, o2, hac, hbd]
    · simp [Op.eqFields, p1, p2, h1, n1, n2, t1, t2, o1, o2, hac, hbd]
  · simp [Op.eqFields, p1, h1, n1, n2, t1, t2, o1, o2, hac]

theorem queued_neq (w : World) (a b c d : Int) : (binOp .neq 61 (.agg #[.int .i64 a, .int .i64 b]) (.agg #[.int .i64 c, .int .i64 d])).run Try.prog w = .ok (.bool (!(a == c && b == d))) w := by
  obtain ⟨f, g, e, n1, n2, t1, t2, o1, o2⟩ : ∃ f g, (Try.prog.fieldsOf 61).toList = [f, g] ∧ f.name = "Priority" ∧ g.name = "ID" ∧ f.type = 3 ∧ g.type = 3 ∧ f.offset = 0 ∧ g.offset = 1 := ⟨(Try.prog.fieldsOf 61)[0]!, (Try.prog.fieldsOf 61)[1]!, by kernel_rfl, by kernel_rfl, by kernel_rfl, by kernel_rfl, by kernel_rfl, by kernel_rfl, by kernel_rfl⟩
  have p1 : ∀ a b, (part 3 #[.int .i64 a, .int .i64 b] 0).run Try.prog w = .ok (.int .i64 a) w := fun a b => by kernel_rfl
  have p2 : ∀ a b, (part 3 #[.int .i64 a, .int .i64 b] 1).run Try.prog w = .ok (.int .i64 b) w := fun a b => by kernel_rfl
  have h1 := fun a b => run_equalIn_int (P := Try.prog) w 9998 3 .i64 .i64 a b (by kernel_rfl)
  rw [run_neq_struct, run_equalIn_struct (P := Try.prog) w 9999 _ _ _ (by kernel_rfl) (by kernel_rfl), e]
  by_cases hac : (a == c) = true
  · by_cases hbd : b = d
    · simp [Op.eqFields, p1, p2, h1, n1, n2, t1, t2, o1, o2, hac, hbd]
    · simp [Op.eqFields, p1, p2, h1, n1, n2, t1, t2, o1, o2, hac, hbd]
  · simp [Op.eqFields, p1, h1, n1, n2, t1, t2, o1, o2, hac]

set_option maxRecDepth 100000 in
set_option maxHeartbeats 2000000 in
theorem law_nobody_nil (w : World) (p id : Int) : Calls Try.prog 50 #[.pointer none, .int .i64 p, .int .i64 id] w fun e w' => e = .returned (.bool true) ∧ Kept [] w w' := by
  have hse := fun w => queued_eq w 0 0 0 0
  have hrr := r_nil_eq
  have hqq := q_nil_eq
  go_enter Try.func50, Try.ntmps50
  go_wp2_with (first | (go_at_call 26; refine (q_Tail_nil _ _ _).mono ?_; rintro e w' ⟨rfl, rfl⟩) | (go_at_call 41; refine (q_Head_nil _ _ _).mono ?_; rintro e w' ⟨rfl, rfl⟩) | (go_at_call 30; refine (q_Take_nil _).mono ?_; rintro e w1 ⟨rfl, k1⟩) | (go_at_call 99; refine (q_Highest_nil _).mono ?_; rintro e w' ⟨rfl, rfl⟩))
  refine (law_all _ none _ [] (QSrc.nil _)).mono ?_
  rintro e w2 ⟨v, rfl, hO, k2⟩
  obtain ⟨sa, scap, rfl, _, _⟩ := owns_slice hO
  have e0 : (qall ([] : List QR)).length = 0 := rfl
  rw [e0]
  have hbx := (Row.new w1 61 [.int .i64 0, .int .i64 0]).kept k2 (by simp)
  have r0 := hbx.cell (i := 0) rfl
  have r1 := hbx.cell (i := 1) rfl
  have k3 : Kept [] w w2 := (k1.alloc _).trans k2
  clear k1 k2 hbx hO
  go_wp2_with (first | (go_at_call 44; refine (q_Bits_nil _).mono ?_; rintro e w' ⟨rfl, rfl⟩) | (go_at_call 123; refine (q_RingS _ none _ [] p (QSrc.nil _)).mono ?_; rintro e w4 ⟨v, rfl, hO, k4⟩; obtain ⟨sb, sbcap, rfl, _, _⟩ := owns_slice hO; have k5 := k3.trans k4; clear hO) | (go_at_call 43; refine (q_Len_nil _).mono ?_; rintro e w' ⟨rfl, rfl⟩) | (go_at_call 126; refine (q_High_nil _ _).mono ?_; rintro e w' ⟨rfl, rfl⟩) | (go_at_call 46; refine (q_Clear_nil _).mono ?_; rintro e w' ⟨rfl, rfl⟩) | (go_at_call 48; refine (q_Copy_nil _).mono ?_; rintro e w' ⟨rfl, rfl⟩))
  go_ret
  exact ⟨rfl, k5⟩

set_option maxRecDepth 100000 in
set_option maxHeartbeats 2000000 in
theorem law_nobody_zero (w : World) (b : Nat) (pp qq : Nat → Nat) (p id : Int) (h : QAtB false w b pp qq [] 0) : Calls Try.prog 50 #[.pointer (some ⟨b, 0, none⟩), .int .i64 p, .int .i64 id] w fun e w' => e = .returned (.bool true) ∧ Kept [b] w w' := by
  have hse := fun w => queued_eq w 0 0 0 0
  have hrr := r_nil_eq
  have hqq := q_nil_eq
  have hb := h.row.lt
  have c0 := h.c0
  have c65 := h.c65
  have hT := q_Tail_un w b p id c0
  have hH := q_Head_un w b p id c0
  have hK := q_Take_un w b hb c0
  have H := Lib.hid h
  clear h c0
  go_enter Try.func50, Try.ntmps50
  go_wp2_with (first | (go_at_call 26; refine hT.mono ?_; rintro e w' ⟨rfl, rfl⟩) | (go_at_call 41; refine hH.mono ?_; rintro e w' ⟨rfl, rfl⟩) | (go_at_call 30; refine hK.mono ?_; rintro e w1 ⟨rfl, k1⟩; have hHi := q_Highest_zero (w1.alloc (.cells #[.int .i64 0, .int .i64 0] 61)) b ((k1.alloc _).cell c65 (by simp))) | (go_at_call 99; refine hHi.mono ?_; rintro e w' ⟨rfl, rfl⟩))
  refine (law_all _ _ _ [] (H.out.kept (k1.alloc _) (by simp)).src).mono ?_
  rintro e w2 ⟨v, rfl, hO, k2⟩
  obtain ⟨sa, scap, rfl, _, _⟩ := owns_slice hO
  have e0 : (qall ([] : List QR)).length = 0 := rfl
  rw [e0]
  have hbx := (Row.new w1 61 [.int .i64 0, .int .i64 0]).kept k2 (by simp)
  have r0 := hbx.cell (i := 0) rfl
  have r1 := hbx.cell (i := 1) rfl
  have k3 : Kept [] w w2 := (k1.alloc _).trans k2
  have h2 := H.out.kept k3 (by simp)
  have hBi := q_Bits w2 b 0 h2.c65
  have hRi := q_RingS w2 _ _ [] p h2.src
  have H2 := Lib.hid h2
  clear k1 k2 hbx hO h2 hHi hK hT hH
  go_wp2_with (first | (go_at_call 44; refine hBi.mono ?_; rintro e w' ⟨rfl, rfl⟩) | (go_at_call 123; refine hRi.mono ?_; rintro e w4 ⟨v, rfl, hO, k4⟩; obtain ⟨sb, sbcap, rfl, _, _⟩ := owns_slice hO; have k5 := k3.trans k4; have h4 := H2.out.kept k4 (by simp); have hLn := q_Len w4 b _ _ [] _ h4; have hMo := q_High w4 b _ _ [] _ p h4; have hCl := q_ClearB w4 [b] b _ _ [] _ h4 (by intro x hx; simpa [qfoot] using hx); clear hO h4) | (go_at_call 43; refine hLn.mono ?_; rintro e w' ⟨rfl, rfl⟩) | (go_at_call 126; refine hMo.mono ?_; rintro e w' ⟨rfl, rfl⟩) | (go_at_call 46; refine hCl.mono ?_; rintro e w5 ⟨rfl, h5, k6⟩; have hCo := q_Copy_un w5 b h5.c0; clear h5) | (go_at_call 48; refine hCo.mono ?_; rintro e w' ⟨rfl, rfl⟩))
  go_ret
  exact ⟨rfl, (k5.mono (by simp)).trans k6⟩
end Go.Proofs.Ytopgfhcgfpceaaa
