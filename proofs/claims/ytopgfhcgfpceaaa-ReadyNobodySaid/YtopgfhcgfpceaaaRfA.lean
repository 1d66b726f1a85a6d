/- The walk of package ring: the iterator's word, by numbers. -/
import Derived.Test.YtopgfhcgfpceaaaRf
namespace Go.Proofs.Ytopgfhcgfpceaaa
open Go.RowKit Go.Shelf

attribute [local go_sem] Oper.semAt_some

/-- What an iterator leaves. -/
def IterK (n : Nat) (J Jx : Nat → World → Prop) (e : Ending) (W' : World) : Prop := (∃ v, e = .returned v) ∧ (J n W' ∨ ∃ k, 0 < k ∧ k ≤ n ∧ Jx k W')

set_option maxRecDepth 100000 in
set_option maxHeartbeats 1000000 in
theorem rgk_nil (n : Nat) (hn : 1 ≤ n) (l Bn : Nat) (J Jx : Nat → World → Prop) (W : World) (hBn : W.cell? ⟨Bn, 0, none⟩ = some (.pointer none)) (h0 : J 0 W) :
    CallsIn Fence.wide n Try.prog 199 #[.func (.yield l) #[] #[], .pointer (some ⟨Bn, 0, none⟩)] W (IterK 0 J Jx) := by
  have hf1 : Fence.wide.fn 197 := trivial
  have hf2 : Fence.wide.fn 200 := trivial
  have hw0 : Fence.wide.depth.isSome = false := rfl
  refine callsIn_of_wp Try.func199 rfl trivial ?_ rfl
  simp only [Try.ntmps199, List.size_toArray, List.length_cons, List.length_nil, Nat.reduceAdd, Nat.reduceSub, Array.replicate_succ, Array.replicate_zero, List.push_toArray, List.append_toArray, List.nil_append, List.cons_append]
  gi_wp2_with (gi_at_call 197; refine (callsIn_wide.2 (rg_alive_nil _)).mono ?_; rintro e w' ⟨rfl, rfl⟩)
  refine bodyPost_ret (results_none rfl _ _ _) rfl ?_
  exact ⟨⟨_, rfl⟩, .inl h0⟩

set_option maxRecDepth 100000 in
set_option maxHeartbeats 2000000 in
/-- The iterator over a ring's things, for every loop body that keeps what it reads. -/
theorem rgk_some (n : Nat) (hn : 1 ≤ n) (l Bn : Nat) (X : Nat → Prop) (bx : Nat) (p q : Nat) (r : Rg) (J Jx : Nat → World → Prop) (W : World) (h : RgAt W p q r) (hX : ∀ k, X k → k < W.heap.size) (hbx : ∀ k, boxRow W bx = some k → k < W.heap.size) (hbl : bx < W.heap.size)
    (hJ : ∀ k A B, J k A → Iters W.heap.size A B → J k B)
    (hY : ∀ k x W1, r.items[k]? = some x → J k W1 → YieldAt Fence.wide (n - 1) Try.prog l #[.int .i64 x] W1 fun e W' => (e = .returned (.bool true) ∧ J (k + 1) W' ∧ KpX X bx W1 W') ∨ (e = .returned (.bool false) ∧ Jx (k + 1) W' ∧ KpX X bx W1 W'))
    (hBn : W.cell? ⟨Bn, 0, none⟩ = some (.pointer (some ⟨p, 0, none⟩))) (h0 : J 0 W) :
    CallsIn Fence.wide n Try.prog 199 #[.func (.yield l) #[] #[], .pointer (some ⟨Bn, 0, none⟩)] W (IterK r.items.length J Jx) := by
  have ha := rg_alive W p q r h
  have hl := rg_list W p q r h
  have hil := r.items_length
  have b1 := h.2.n; have b2 := h.2.len; have b3 := h.2.room
  have hitems : r.items.length ≤ 65536 := by omega
  clear h b1 b2 b3 hil
  generalize r.items = xs at *
  have hf1 : Fence.wide.fn 197 := trivial
  have hf2 : Fence.wide.fn 200 := trivial
  have hw0 : Fence.wide.depth.isSome = false := rfl
  refine callsIn_of_wp Try.func199 rfl trivial ?_ rfl
  simp only [Try.ntmps199, List.size_toArray, List.length_cons, List.length_nil, Nat.reduceAdd, Nat.reduceSub, Array.replicate_succ, Array.replicate_zero, List.push_toArray, List.append_toArray, List.nil_append, List.cons_append]
  gi_wp2_with (first | (gi_at_call 197; refine (callsIn_wide.2 ha).mono ?_; rintro e w' ⟨rfl, rfl⟩) | (gi_at_call 200; refine (callsIn_wide.2 hl).mono ?_; rintro e w1 ⟨v, rfl, hO, hk1⟩; obtain ⟨sa, scap, rfl, hs1, hs2⟩ := owns_slice hO))
  have hs3 : scap ≤ 9223372036854775807 := by unfold maxLen at hs2; exact hs2
  have hL : ListAt X bx sa xs w1 := by
    rcases owns_row hO with ⟨_, _, h2⟩ | ⟨g, cap', tail, h1, hb, hg, _⟩
    · exact .inl (by simpa using h2)
    · injection h1 with h1
      refine .inr ⟨g, tail, h1, hg, fun e => by have := hX g e; omega, fun e => ?_⟩
      rw [boxRow_of (hk1.block bx hbl (by simp))] at e
      have := hbx g e
      omega
  have hJ1 : J 0 w1 := hJ _ _ _ h0 (Iters.of_kept hk1)
  clear hO ha hl hJ h0 hk1 hX hbx hbl hBn hs2
  gi_loopw [11] (fun i wr => ∃ k : Nat, k ≤ xs.length ∧ i = .int .i64 k ∧ J k wr ∧ ListAt X bx sa xs wr) (fun i _ => xs.length - (intOf i).toNat)
  case atStart => exact ⟨0, Nat.zero_le _, rfl, hJ1, hL⟩
  case round =>
    clear hJ1 hL
    obtain ⟨k, hk, rfl, hJs, hLs⟩ := hrel
    by_cases hlt : k < xs.length
    · have hL2 := hLs
      obtain ⟨g, tail, rfl, hg, _⟩ : ∃ g tail, sa = some ⟨g, 0, none⟩ ∧ Row wr g 3 ((xs.map fun i => .int .i64 i) ++ tail) ∧ True := by
        rcases hLs with h | ⟨g, tail, h1, h2, _⟩
        · rw [h] at hlt; simp at hlt
        · exact ⟨g, tail, h1, h2, trivial⟩
      have hget := List.getElem?_eq_getElem hlt
      have hcx : wr.cell? ⟨g, k, none⟩ = some (.int .i64 xs[k]) := hg.cell (by rw [List.getElem?_append_left (by simpa using hlt), List.getElem?_map, hget]; rfl)
      obtain ⟨fn, tmps, assign, body, hy, hR⟩ := hY k xs[k] wr hget hJs
      have HL := Lib.hid hL2
      clear hLs hL2 hg hget hY hJs
      generalize xs[k] = x at *
      gi_wp2
      refine hR.mono ?_
      rintro e W3 (⟨rfl, hJ3, hk3⟩ | ⟨rfl, hJx3, _⟩)
      · gi_wp2
        exact ⟨⟨k + 1, by omega, by go_num, hJ3, HL.out.kp hk3⟩, by simp [intOf]; omega⟩
      · gi_wp2
        refine bodyPost_ret (results_none rfl _ _ _) rfl ?_
        exact ⟨⟨_, rfl⟩, .inr ⟨k + 1, by omega, by omega, hJx3⟩⟩
    · obtain rfl : k = xs.length := by omega
      clear hLs hY
      gi_wp2
      go_end0
      exact ⟨⟨_, rfl⟩, .inl hJs⟩

theorem rgk_iter (n : Nat) (hn : 1 ≤ n) (Bn : Nat) (X : Nat → Prop) (bx : Nat) (p q : Nat) (r : Rg) (w : World) (h : RgAt w p q r) (hX : ∀ k, X k → k < w.heap.size) (hbx : ∀ k, boxRow w bx = some k → k < w.heap.size) (hbl : bx < w.heap.size)
    (hBn : w.cell? ⟨Bn, 0, none⟩ = some (.pointer (some ⟨p, 0, none⟩))) :
    IterO Try.prog n 199 #[.pointer (some ⟨Bn, 0, none⟩)] (fun x : Int => #[Value.int .i64 x]) (KpX X bx) r.items w := fun l J Jx W hk hJ _ hY h0 => by
  refine rgk_some n hn l Bn X bx p q r J Jx W (h.kept hk (by simp) (by simp)) (fun k hk2 => by have := hX k hk2; have := hk.size; omega) (fun k hk2 => ?_) (by have := hk.size; omega) hJ hY (hk.cell hBn (by simp)) h0
  rw [boxRow_of (hk.block bx hbl (by simp))] at hk2
  have := hbx k hk2
  have := hk.size
  omega

theorem rgk_iter_nil (n : Nat) (hn : 1 ≤ n) (Bn : Nat) (X : Nat → Prop) (bx : Nat) (w : World) (hBn : w.cell? ⟨Bn, 0, none⟩ = some (.pointer none)) :
    IterO Try.prog n 199 #[.pointer (some ⟨Bn, 0, none⟩)] (fun x : Int => #[Value.int .i64 x]) (KpX X bx) [] w := fun l J Jx W hk _ _ _ h0 =>
  rgk_nil n hn l Bn J Jx W (hk.cell hBn (by simp)) h0
end Go.Proofs.Ytopgfhcgfpceaaa
