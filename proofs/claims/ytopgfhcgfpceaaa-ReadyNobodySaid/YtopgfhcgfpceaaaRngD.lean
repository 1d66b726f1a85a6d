/- The walk of package ring: space, where the cells grow. -/
import Derived.Test.YtopgfhcgfpceaaaRngC
import Derived.Laws.CopyOwn
namespace Go.Proofs.Ytopgfhcgfpceaaa
open Go.RowKit

/-- So many noughts. -/
def zeros (n : Nat) : List Value := List.replicate n (Value.int .i64 0)

theorem ints_make (n : Nat) (hn : n ≤ 131072) (w : World) : (Instr.makeSlice 35 (.int .i64 n) (.int .i64 n)).run Try.prog w = .ok (.slice (some ⟨w.heap.size, 0, none⟩) n n) (w.alloc (.cells (zeros n).toArray 3)) := by
  unfold zeros
  obtain ⟨i0, hi, hz0, hz1, hz2⟩ := info_parts Try.info3
  have := run_make (P := Try.prog) w 35 3 i0 _ Try.underlying35 hi hz0 .i64 .i64 n n (by omega) (Int.le_refl _) (by rw [hz2]; omega) (by omega)
  have hzc : (Value.int .i64 0).cells = ((fun _ : Unit => [Value.int .i64 0]) ()).toArray := rfl
  rw [this, hz1, hzc, Int.toNat_natCast, madeCells_flat (fun _ : Unit => [Value.int .i64 0]) () n 1 rfl (by omega)]
  have e : (List.replicate n ()).flatMap (fun _ => [Value.int .i64 0]) = List.replicate n (Value.int .i64 0) := by
    clear this hn
    induction n with
    | zero => rfl
    | succ n ih => rw [List.replicate_succ, List.flatMap_cons, ih, List.replicate_succ]; rfl
  rw [e]

theorem addr_add (b o j : Nat) : (⟨b, o, none⟩ : Addr).add j = ⟨b, o + j, none⟩ := by
  unfold Addr.add
  split <;> simp_all

theorem run_copy_onto {P : Program} {w : World} (dT sT ty elem : TypeId) (hu : P.underlying dT = some (.slice elem)) (hsz : (P.info? elem).map (·.size) = some 1)
    (g dLen dCap sLen sCap : Nat) (sp : Option Addr) (cur : List Value) (t : TypeId) (hg : Row w g t cur) (cs : List Value) (hn : cs.length = sLen) (hle : sLen ≤ dLen) (hfit : cs.length ≤ cur.length)
    (hsrc : 0 < cs.length → ∃ b off, sp = some ⟨b, off, none⟩ ∧ ∀ j v, cs[j]? = some v → w.cell? ⟨b, off + j, none⟩ = some v) (h1 : ∀ v ∈ cs, v.oneCell' = true) :
    (Builtin.copy_ #[dT, sT] ty #[.slice (some ⟨g, 0, none⟩) dLen dCap, .slice sp sLen sCap]).run P w = .ok (.int .i64 (sLen : Nat)) (w.setRow g (cs ++ cur.drop cs.length).toArray) := by
  by_cases h0 : cs.length = 0
  · obtain rfl : cs = [] := List.eq_nil_of_length_eq_zero h0
    have := run_copy_none (P := P) w dT sT ty elem (some ⟨g, 0, none⟩) sp dLen dCap sLen sCap hu hsz (by rw [← hn]; simp)
    simp only [List.nil_append, List.length_nil, List.drop_zero]
    rw [setRow_self w g cur.toArray t (0, 0) hg, this, ← hn]
    rfl
  · obtain ⟨b, off, rfl, hsr⟩ := hsrc (by omega)
    have := run_copy_row (P := P) w dT sT ty elem g 0 dLen dCap ⟨b, off, none⟩ sLen sCap cur.toArray t cs hu hsz hg (by rw [hn]; exact (Nat.min_eq_left hle).symm) (fun j v hj => by rw [addr_add]; exact hsr j v hj) (by simpa using hfit) h1
    rw [this, ← hn]
    simp only [List.take_zero, List.nil_append, Nat.zero_add]
    rfl

/-- An owned row as a block that is known whole. -/
theorem owns_row {w : World} {base e size n : Nat} {v : Value} {xs : List Value} (h : w.ownsRow base e size v n xs) :
    (v = .slice none 0 0 ∧ n = 0 ∧ xs = []) ∨ ∃ g cap tail, v = .slice (some ⟨g, 0, none⟩) n cap ∧ base ≤ g ∧ Row w g e (xs ++ tail) ∧ (xs ++ tail).length = cap * size ∧ n ≤ cap ∧ cap ≤ 9223372036854775807 := by
  rcases h.2 with ⟨h1, h2⟩ | ⟨g, cap, cur, h1, h2, h3, h4, h5, h6, h7⟩
  · refine .inl ⟨h1, h2, ?_⟩
    have := h.1
    rw [h2, Nat.zero_mul] at this
    exact List.eq_nil_of_length_eq_zero this
  · refine .inr ⟨g, cap, cur.toList.drop (n * size), h1, h2, ?_, ?_, h4, by unfold maxLen at h5; exact h5⟩
    · rw [← h7, List.take_append_drop]; exact h3
    · rw [← h7, List.take_append_drop]; exact h6

theorem Kept.drewN (S : List Nat) (w : World) (n : Nat) : Kept S w (w.drewN n) := ⟨rfl, rfl, rfl, Nat.le_refl _, fun _ _ _ => rfl⟩

/-- What an owned row holds, read where it lies. -/
theorem owns_src {w : World} {base e n : Nat} {v : Value} {xs : List Value} {a : Option Addr} {cap : Nat} (h : w.ownsRow base e 1 v n xs) (hv : v = .slice a n cap) : 0 < xs.length → ∃ g, a = some ⟨g, 0, none⟩ ∧ base ≤ g ∧ ∀ j u, xs[j]? = some u → w.cell? ⟨g, 0 + j, none⟩ = some u := by
  intro h0
  rcases owns_row h with ⟨_, _, h2⟩ | ⟨g, cap', tail, h1, hb, hg, _⟩
  · rw [h2] at h0; simp at h0
  · rw [h1] at hv
    injection hv with hv
    refine ⟨_, hv.symm, hb, fun j u hj => ?_⟩
    rw [Nat.zero_add]
    exact hg.cell (by rw [List.getElem?_append_left (List.getElem?_eq_some_iff.1 hj).1]; exact hj)

set_option maxHeartbeats 1600000 in
set_option maxRecDepth 20000 in
theorem rg_space_grow (w : World) (p q : Nat) (r : Rg) (h : RgAt w p q r) (hn : r.n < r.room) (hl : r.n = r.cells.length) : Calls Try.prog 198 #[.pointer (some ⟨p, 0, none⟩)] w fun e w' => e = .returned (.int .i64 0) ∧ (∃ q', w.heap.size ≤ q' ∧ RgAt w' p q' r.space) ∧ Kept [p] w w' := by
  have hlist := fun nq => rg_list (w.drewN nq) p q r h
  have hwf := Rg.space_wf h.2
  have hroom := h.2.room
  obtain ⟨⟨a, cap, tail, hx⟩, hw⟩ := h
  have c1 : w.cell? ⟨p, 1, none⟩ = some (.int .i64 r.room) := hx.1.cell rfl
  have c2 : w.cell? ⟨p, 2, none⟩ = some (.slice a r.n cap) := by rw [hl]; exact hx.1.cell rfl
  have c4 : w.cell? ⟨p, 4, none⟩ = some (.int .i64 r.n) := hx.1.cell rfl
  have hlt : (r.n : Int) < r.room := by omega
  have hne : ((r.n : Int) == (r.n : Int)) = true := by simp
  have hrow := hx.1
  obtain ⟨m, hm⟩ : ∃ m : Nat, m = min r.room (2 * r.n + 4) := ⟨_, rfl⟩
  have hm1 : r.n ≤ m := by omega
  have hm2 : m ≤ 65536 := by omega
  have hmk : ∀ M : Int, M = m → ∀ w, (Instr.makeSlice 35 (.int .i64 M) (.int .i64 M)).run Try.prog w = .ok (.slice (some ⟨w.heap.size, 0, none⟩) m m) (w.alloc (.cells (zeros m).toArray 3)) := fun M e w => by rw [e]; exact ints_make m (by omega) w
  have hu := Try.underlying35
  have hz := Try.info3
  have hroom2 : ∀ w', (∃ q', w.heap.size ≤ q' ∧ RgX w' p q' (some ⟨q', 0, none⟩) m [] r.space ∧ True) → (∃ q', w.heap.size ≤ q' ∧ RgAt w' p q' r.space) := fun w' ⟨q', h1, h2, _⟩ => ⟨q', h1, ⟨_, _, _, h2⟩, hwf⟩
  have hsp : r.space.cells = r.items ++ List.replicate (m - r.n) 0 ∧ r.space.from_ = 0 ∧ r.space.n = r.n ∧ r.space.high = r.high ∧ r.space.room = r.room := by
    unfold Rg.space
    rw [if_pos hl, hm]
    exact ⟨rfl, rfl, rfl, rfl, rfl⟩
  have HSP := Lib.hid hsp
  have HM := Lib.hid hm
  have HL := Lib.hid hl
  clear hx hw hl hsp
  have hil := r.items_length
  have HIL := Lib.hid hil
  clear hil
  have s1 : IntKind.i64.wrap (2 * (r.n : Int)) = 2 * (r.n : Int) := IntWalk.i64_in _ (by omega)
  have s2 : IntKind.i64.wrap (2 * (r.n : Int) + 4) = 2 * (r.n : Int) + 4 := IntWalk.i64_in _ (by omega)
  obtain ⟨M, hM, hMm, hMc⟩ : ∃ M : Int, (M = if 2 * (r.n : Int) + 4 < r.room then 2 * (r.n : Int) + 4 else r.room) ∧ M = m ∧ True := ⟨_, rfl, by split <;> omega, trivial⟩
  replace hmk := hmk M hMm
  clear hm hMm hMc
  by_cases hc : 2 * (r.n : Int) + 4 < r.room
  all_goals
    first | (rw [if_pos hc] at hM) | (rw [if_neg hc] at hM)
    subst hM
    rw [Rg.items_length] at hlist
    go_enter Try.func198, Try.ntmps198
    go_wp2
    go_quiet (fail)
    go_wp2
    go_quiet (fail)
    go_wp2_with (go_at_call 200; refine (hlist _).mono ?_; rintro e w1 ⟨v, rfl, hO, hk1⟩)
    clear c1 c2 c4
    have hkA : Kept [] w w1 := (Kept.drewN _ _ _).trans hk1
    have hrow1 := hrow.kept hkA (by simp)
    obtain ⟨sa, scap, rfl, hs1, hs2⟩ := owns_slice hO
    have hs3 : scap ≤ 9223372036854775807 := by unfold maxLen at hs2; exact hs2
    have hsrc := owns_src hO rfl
    have d1 : w1.cell? ⟨p, 1, none⟩ = some (.int .i64 r.room) := hrow1.cell rfl
    have d2 : w1.cell? ⟨p, 2, none⟩ = some (.slice a r.n cap) := by have := HL.out; rw [this]; exact hrow1.cell rfl
    have d4 : w1.cell? ⟨p, 4, none⟩ = some (.int .i64 r.n) := hrow1.cell rfl
    have f2 := hrow1.free 2
    have f3 := hrow1.free 3
    have hpw := hrow1.lt
    have k14 : ∀ x v, ((w1.setCell ⟨p, 2, none⟩ x).alloc v).drew.cell? ⟨p, 1, none⟩ = some (.int .i64 r.room) ∧ ((w1.setCell ⟨p, 2, none⟩ x).alloc v).drew.cell? ⟨p, 4, none⟩ = some (.int .i64 r.n) := fun x v => ⟨(((hrow1.set 2 x).alloc v).drew).cell rfl, (((hrow1.set 2 x).alloc v).drew).cell rfl⟩
    have rp := (((hrow1.set 2 (.slice (some ⟨w1.heap.size, 0, none⟩) m m)).alloc (.cells (zeros m).toArray 3)).drew)
    have rg : Row (((w1.setCell ⟨p, 2, none⟩ (.slice (some ⟨w1.heap.size, 0, none⟩) m m)).alloc (.cells (zeros m).toArray 3)).drew) w1.heap.size 3 (zeros m) := Row.drew (Row.new' (by simp))
    have kk : Kept [p] w1 (((w1.setCell ⟨p, 2, none⟩ (.slice (some ⟨w1.heap.size, 0, none⟩) m m)).alloc (.cells (zeros m).toArray 3)).drew) := (((Kept.refl [p] w1).setCell (by simp) _).alloc _).drew
    have hcp := run_copy_onto (P := Try.prog) 35 35 3 3 hu (by kernel_rfl) w1.heap.size m m r.n scap sa (zeros m) 3 rg (r.items.map fun i => .int .i64 i) (by rw [List.length_map]; exact HIL.out) hm1 (by rw [List.length_map, HIL.out]; simpa [zeros] using hm1) (fun h0 => by
      obtain ⟨g, h1, hb, h2⟩ := hsrc h0
      have hb : w.heap.size ≤ g := hb
      exact ⟨g, 0, h1, fun j v hj => kk.cell (h2 j v hj) (by have := hrow.lt; simp; omega)⟩) (by intro v hv; obtain ⟨i, _, rfl⟩ := List.mem_map.1 hv; rfl)
    obtain ⟨W5, hW5⟩ : ∃ W5, W5 = ((((w1.setCell ⟨p, 2, none⟩ (.slice (some ⟨w1.heap.size, 0, none⟩) m m)).alloc (.cells (zeros m).toArray 3)).drew)).setRow w1.heap.size ((r.items.map fun i => Value.int .i64 i) ++ (zeros m).drop (r.items.map fun i => Value.int .i64 i).length).toArray := ⟨_, rfl⟩
    rw [← hW5] at hcp
    have hpg : p ≠ w1.heap.size := by omega
    have rp5 := rp.setRow_ne ((r.items.map fun i => Value.int .i64 i) ++ (zeros m).drop (r.items.map fun i => Value.int .i64 i).length).toArray hpg
    have rg5 := rg.setRow ((r.items.map fun i => Value.int .i64 i) ++ (zeros m).drop (r.items.map fun i => Value.int .i64 i).length)
    have k5 := kk.setRow (g := w1.heap.size) (.inr (Nat.le_refl _)) ((r.items.map fun i => Value.int .i64 i) ++ (zeros m).drop (r.items.map fun i => Value.int .i64 i).length).toArray
    rw [← hW5] at rp5 rg5 k5
    clear hW5 rp rg kk hsrc
    have e3 : W5.cell? ⟨p, 3, none⟩ = some (.int .i64 r.from_) := rp5.cell rfl
    have f5 := rp5.free 3
    go_region_held3 (fun w' => w'.cell? ⟨p, 1, none⟩ = some (.int .i64 r.room) ∧ w'.cell? ⟨p, 4, none⟩ = some (.int .i64 r.n)) (first | go_keep | exact k14 _ _) (fail)
    all_goals
      go_wp2
      go_ret
      refine ⟨rfl, hroom2 _ ⟨w1.heap.size, hkA.size, ⟨?_, .inr ⟨rfl, ?_, hpg⟩, ?_, by omega, by simp⟩, trivial⟩, ?_⟩
      · have e := rp5.set 3 (.int .i64 0)
        have hlen : (r.items ++ List.replicate (m - r.n) 0).length = m := by simp [HIL.out]; omega
        unfold Rg.rcells at e ⊢
        rw [HSP.out.1, HSP.out.2.1, HSP.out.2.2.1, HSP.out.2.2.2.1, HSP.out.2.2.2.2, hlen]
        exact e
      · have e := rg5.set_ne (a := ⟨p, 3, none⟩) hpg (.int .i64 0)
        rw [HSP.out.1, List.map_append, List.map_replicate, List.append_nil]
        rw [List.length_map, HIL.out] at e
        unfold zeros at e
        rw [List.drop_replicate] at e
        exact e
      · rw [HSP.out.1]; simp [HIL.out]; omega
      · exact ((hkA.mono (by simp)).trans k5).setCell (by simp) _
end Go.Proofs.Ytopgfhcgfpceaaa
