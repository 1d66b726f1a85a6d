/- The walk of package ring: Last and First of a full ring; Clear, New. -/
import Derived.Test.YtopgfhcgfpceaaaRngG
namespace Go.Proofs.Ytopgfhcgfpceaaa
open Go.RowKit

theorem rg_Last_full (w : World) (p q : Nat) (r : Rg) (v : Int) (h : RgAt w p q r) (hn : r.room ≤ r.n) : Calls Try.prog 101 #[.pointer (some ⟨p, 0, none⟩), .int .i64 v] w fun e w' => e = .returned (.int .i64 121) ∧ ∃ n, w' = w.drewN n := by
  have ha := rg_alive w p q r h
  have hsp := rg_space_full w p q r h hn
  clear h hn
  go_enter Try.func101, Try.ntmps101
  go_wp2_with (first | (go_at_call 197; refine ha.mono ?_; rintro e w' ⟨rfl, rfl⟩) | (go_at_call 198; refine hsp.mono ?_; rintro e w1 ⟨rfl, n, rfl⟩))
  go_ret
  exact ⟨rfl, _, rfl⟩

theorem rg_First_full (w : World) (p q : Nat) (r : Rg) (v : Int) (h : RgAt w p q r) (hn : r.room ≤ r.n) : Calls Try.prog 128 #[.pointer (some ⟨p, 0, none⟩), .int .i64 v] w fun e w' => e = .returned (.int .i64 121) ∧ ∃ n, w' = w.drewN n := by
  have ha := rg_alive w p q r h
  have hsp := rg_space_full w p q r h hn
  clear h hn
  go_enter Try.func128, Try.ntmps128
  go_wp2_with (first | (go_at_call 197; refine ha.mono ?_; rintro e w' ⟨rfl, rfl⟩) | (go_at_call 198; refine hsp.mono ?_; rintro e w1 ⟨rfl, n, rfl⟩))
  go_ret
  exact ⟨rfl, _, rfl⟩

theorem run_clear_at {P : Program} {w : World} (sT ty elem : TypeId) (i : TypeInfo) (z : Value) (g off n sc : Nat) (cur cs : List Value) (T : TypeId) (hu : P.underlying sT = some (.slice elem)) (hi : P.info? elem = some i) (hz : i.zero = some z)
    (hg : Row w g T cur) (hfit : off + cs.length ≤ cur.length) (hcs : Builtin.zeroCells z.cells n = cs.toArray) (h1 : ∀ v ∈ cs, v.oneCell' = true) :
    (Builtin.clear_ #[sT] ty #[.slice (some ⟨g, off, none⟩) n sc]).run P w = .ok (.tuple #[]) (w.setRow g (cur.take off ++ cs ++ cur.drop (off + cs.length)).toArray) := by
  have hst := run_storeCells_at P g off T cs 0 cur.toArray w hg (by simp; omega) h1
  simp only [Nat.add_zero] at hst
  cases n with
  | zero =>
    have : cs = [] := by
      have e : (Builtin.zeroCells z.cells 0).size = cs.length := by rw [hcs]; simp
      simp [Builtin.zeroCells] at e
      exact List.eq_nil_of_length_eq_zero e.symm
    subst this
    simp only [List.append_nil, List.length_nil, Nat.add_zero, List.take_append_drop]
    rw [setRow_self w g cur.toArray T (0, 0) hg]
    simp [Builtin.clear_, run_underlying hu]
  | succ n => simp [Builtin.clear_, run_underlying hu, zeroValue, typeInfo, hi, hz, hcs, hst]

theorem run_clear_none {P : Program} {w : World} (sT ty elem : TypeId) (a : Option Addr) (sc : Nat) (hu : P.underlying sT = some (.slice elem)) :
    (Builtin.clear_ #[sT] ty #[.slice a 0 sc]).run P w = .ok (.tuple #[]) w := by
  cases a <;> simp [Builtin.clear_, run_underlying hu]

theorem zeros_one (n : Nat) : ∀ v ∈ zeros n, v.oneCell' = true := by
  intro v hv
  rw [(List.mem_replicate.1 hv).2]
  rfl

theorem zeros_cells (n : Nat) : Builtin.zeroCells (Value.int .i64 0).cells n = (zeros n).toArray := by
  have := zeroCells_flat (fun _ : Unit => [Value.int .i64 0]) () n (by decide)
  have e : (List.replicate n ()).flatMap (fun _ => [Value.int .i64 0]) = zeros n := by
    clear this
    unfold zeros
    induction n with
    | zero => rfl
    | succ n ih => rw [List.replicate_succ, List.flatMap_cons, ih, List.replicate_succ]; rfl
  rw [e] at this
  exact this

/-- An empty ring is made. -/
theorem rg_New (w : World) (room : Nat) (h : room ≤ 65536) : Calls Try.prog 195 #[.int .i64 room] w fun e w' => e = .returned (.tuple #[.pointer (some ⟨w.heap.size, 0, none⟩), .int .i64 0]) ∧ RgAt w' w.heap.size w.heap.size (Rg.new room) ∧ Kept [] w w' := by
  have h1 : (0 : Int) ≤ room := by omega
  have h2 : (room : Int) ≤ 65536 := by omega
  go_enter Try.func195, Try.ntmps195
  go_wp2
  go_ret2
  refine ⟨rfl, ⟨⟨none, 0, [], Row.new w _ _, .inl rfl, by simp [Rg.new], by omega, fun _ => rfl⟩, Rg.new_wf h⟩, (Kept.refl _ _).alloc _⟩

theorem rg_New_bad (w : World) (room : Int) (h : 65536 < room) : Calls Try.prog 195 #[.int .i64 room] w fun e w' => e = .returned (.tuple #[.pointer none, .int .i64 120]) ∧ w = w' := by
  have h1 : (0 : Int) ≤ room := by omega
  go_enter Try.func195, Try.ntmps195
  go_wp2
  go_ret2
  exact ⟨rfl, rfl⟩

theorem rg_Clear_nil (w : World) : Calls Try.prog 129 #[.pointer none] w fun e w' => e = .returned (.int .i64 0) ∧ w = w' := by
  go_enter Try.func129, Try.ntmps129
  go_wp2_with (go_at_call 197; refine (rg_alive_nil _).mono ?_; rintro e w' ⟨rfl, rfl⟩)
  go_ret
  exact ⟨rfl, rfl⟩

set_option maxRecDepth 20000 in
theorem rg_Clear (w : World) (p q : Nat) (r : Rg) (h : RgAt w p q r) : Calls Try.prog 129 #[.pointer (some ⟨p, 0, none⟩)] w fun e w' => e = .returned (.int .i64 r.n) ∧ RgAt w' p q r.none_ ∧ Kept [p, q] w w' := by
  have ha := rg_alive w p q r h
  have hwf := Rg.none_wf h.2
  obtain ⟨⟨a, cap, tail, hx⟩, hw⟩ := h
  have c4 : w.cell? ⟨p, 4, none⟩ = some (.int .i64 r.n) := hx.1.cell rfl
  have hmk : ∃ w1, (Builtin.clear_ #[35] 0 #[.slice a r.cells.length cap]).run Try.prog w = .ok (.tuple #[]) w1 ∧ Row w1 p 288 (r.rcells a cap) ∧ (r.cells = [] ∨ (a = some ⟨q, 0, none⟩ ∧ Row w1 q 3 (zeros r.cells.length ++ tail) ∧ p ≠ q)) ∧ Kept [p, q] w w1 := by
    obtain ⟨i0, hi, hz0, hz1, hz2⟩ := info_parts Try.info3
    rcases hx.2.1 with h1 | ⟨h1, h2, h3⟩
    · exact ⟨w, by rw [h1]; exact run_clear_none _ _ _ _ _ Try.underlying35, hx.1, .inl h1, Kept.refl _ _⟩
    · subst h1
      have := run_clear_at (P := Try.prog) (w := w) 35 0 3 i0 _ q 0 r.cells.length cap _ (zeros r.cells.length) 3 Try.underlying35 hi hz0 h2 (by simp [zeros]) (zeros_cells _) (zeros_one _)
      rw [List.take_zero, List.nil_append, Nat.zero_add, List.drop_append_of_le_length (by simp [zeros]), List.drop_eq_nil_of_le (by simp [zeros]), List.nil_append] at this
      exact ⟨_, this, hx.1.setRow_ne _ h3, .inr ⟨rfl, h2.setRow _, h3⟩, (Kept.refl _ _).setRow (by simp) _⟩
  obtain ⟨w1, hcl, hr1, hr2, hk1⟩ := hmk
  have c2 : w.cell? ⟨p, 2, none⟩ = some (.slice a r.cells.length cap) := hx.1.cell rfl
  have d4 : w1.cell? ⟨p, 4, none⟩ = some (.int .i64 r.n) := hr1.cell rfl
  have d3 : w1.cell? ⟨p, 3, none⟩ = some (.int .i64 r.from_) := hr1.cell rfl
  have f3 := hr1.free 3
  have f4 := hr1.free 4
  have HR1 := Lib.hid hr1
  have HR2 := Lib.hid hr2
  have HX := Lib.hid hx.2.2
  clear hx hr1 hr2
  go_enter Try.func129, Try.ntmps129
  go_wp2_with (go_at_call 197; refine ha.mono ?_; rintro e w' ⟨rfl, rfl⟩)
  go_ret
  refine ⟨rfl, ⟨⟨a, cap, tail, ?_, ?_, by simpa [Rg.none_] using HX.out⟩, hwf⟩, (hk1.setCell (by simp) _).setCell (by simp) _⟩
  · have e := (HR1.out.set 4 (.int .i64 0)).set 3 (.int .i64 0)
    unfold Rg.rcells at e ⊢
    unfold Rg.none_
    simp only [List.length_replicate]
    exact e
  · rcases HR2.out with h1 | ⟨h1, h2, h3⟩
    · exact .inl (by simp [Rg.none_, h1])
    · refine .inr ⟨h1, ?_, h3⟩
      have e := (h2.set_ne (a := ⟨p, 4, none⟩) h3 (.int .i64 0)).set_ne (a := ⟨p, 3, none⟩) h3 (.int .i64 0)
      unfold Rg.none_
      rw [List.map_replicate]
      exact e
end Go.Proofs.Ytopgfhcgfpceaaa
