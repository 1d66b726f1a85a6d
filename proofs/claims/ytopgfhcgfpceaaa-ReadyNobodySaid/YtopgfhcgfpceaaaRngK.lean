/- The walk of package ring: All, and the iterator that it answers. -/
import Derived.Test.YtopgfhcgfpceaaaRngJ
import Derived.RangeFuncNested
import Derived.RangeFuncBound
import Derived.RangeFuncCalls
import Derived.RangeFuncLeaves
import Derived.RangeFuncBox
import Derived.Shelf.Abstract
import Derived.Shelf.RegionOpen
import Derived.OwnWalkIn
import Derived.TacticsInMore
import Derived.LoopNIn
import Derived.LoopIn
import Derived.Maps.AppendAt
namespace Go.Proofs.Ytopgfhcgfpceaaa
open Go.RowKit Go.Shelf

/-- The block of the slice that stands in a box. -/
def boxRow (W : World) (bx : Nat) : Option Nat := (W.cell? ⟨bx, 0, none⟩).bind Value.ownBlock

/-- What a loop's body keeps: whatever holds cells, but for blocks of X and the row of the slice in the box bx; that row stays, or is a new one. -/
structure KpX (X : Nat → Prop) (bx : Nat) (W W' : World) : Prop where
  size : W.heap.size ≤ W'.heap.size
  same : ∀ k o, ¬ X k → W.heap[k]? = some o → o.isCells = true → boxRow W bx ≠ some k → W'.heap[k]? = some o
  row : ∀ k, boxRow W' bx = some k → boxRow W bx = some k ∨ W.heap.size ≤ k

theorem KpX.trans {X : Nat → Prop} {bx : Nat} {a b c : World} (h : KpX X bx a b) (k : KpX X bx b c) : KpX X bx a c := by
  refine ⟨Nat.le_trans h.size k.size, fun i o hX hi ho hb => ?_, fun i hi => ?_⟩
  · refine k.same i o hX (h.same i o hX hi ho hb) ho fun e => ?_
    rcases h.row i e with h1 | h1
    · exact hb h1
    · have := (Array.getElem?_eq_some_iff.1 hi).1; omega
  · rcases k.row i hi with h1 | h1
    · exact h.row i h1
    · exact .inr (by have := h.size; omega)

theorem boxRow_of {W W' : World} {bx : Nat} (h : W'.heap[bx]? = W.heap[bx]?) : boxRow W' bx = boxRow W bx := by
  unfold boxRow
  rw [World.cell?_of_block (a := ⟨bx, 0, none⟩) h]

theorem KpX.putObj {X : Nat → Prop} {bx : Nat} (W : World) (l : Nat) (o o' : Obj) (h : W.heap[l]? = some o) (ho : o.isCells = false) (hne : bx ≠ l) : KpX X bx W (W.putObj l o') := by
  have e : boxRow (W.putObj l o') bx = boxRow W bx := boxRow_of (World.putObj_heap_other hne)
  refine ⟨by simp, fun k o2 _ hk hc _ => ?_, fun k hk => .inl (e ▸ hk)⟩
  rw [World.putObj_heap_other]
  · exact hk
  · rintro rfl
    rw [h] at hk
    injection hk with hk
    subst hk
    rw [ho] at hc
    cases hc

theorem KpX.row_cells {X : Nat → Prop} {bx : Nat} {W W' : World} (hk : KpX X bx W W') {b : Nat} {T : TypeId} {cs : List Value} (h : Row W b T cs) (hX : ¬ X b) (hb : boxRow W bx ≠ some b) : Row W' b T cs ∧ boxRow W' bx ≠ some b := by
  refine ⟨hk.same b _ hX h rfl hb, fun e => ?_⟩
  rcases hk.row b e with h1 | h1
  · exact hb h1
  · have := h.lt; omega

theorem Kept.grownNone {w w' : World} (h : Kept [] w w') : w.grownBy w' none := ⟨h.os, h.tape, h.output, h.size, fun k hk _ => h.block k hk (by simp)⟩

attribute [local go_sem] Oper.semAt_some

theorem rg_All (w : World) (a : Option Addr) : Calls Try.prog 105 #[.pointer a] w fun e w' => e = .returned (.func (.func 199) #[] #[.pointer (some ⟨w.heap.size, 0, none⟩)]) ∧ w' = w.alloc (.cells #[.pointer a] 90) := by
  go_enter Try.func105, Try.ntmps105
  go_wp2
  go_ret
  exact ⟨rfl, rfl⟩

/-- What an iterator over ints leaves. -/
def Iter (xs : List Int) (J Jx : List Int → World → Prop) (e : Ending) (W' : World) : Prop := (∃ v, e = .returned v) ∧ ((∃ ys, ys = xs ∧ J ys W') ∨ (∃ pre, pre <+: xs ∧ Jx pre W'))

set_option maxRecDepth 100000 in
set_option maxHeartbeats 1000000 in
theorem rg_All1_nil (n : Nat) (hn : 1 ≤ n) (l Bn : Nat) (J Jx : List Int → World → Prop) (W : World) (hBn : W.cell? ⟨Bn, 0, none⟩ = some (.pointer none)) (h0 : J [] W) :
    CallsIn Fence.wide n Try.prog 199 #[.func (.yield l) #[] #[], .pointer (some ⟨Bn, 0, none⟩)] W (Iter [] J Jx) := by
  have hf1 : Fence.wide.fn 197 := trivial
  have hf2 : Fence.wide.fn 200 := trivial
  have hw0 : Fence.wide.depth.isSome = false := rfl
  refine callsIn_of_wp Try.func199 rfl trivial ?_ rfl
  simp only [Try.ntmps199, List.size_toArray, List.length_cons, List.length_nil, Nat.reduceAdd, Nat.reduceSub, Array.replicate_succ, Array.replicate_zero, List.push_toArray, List.append_toArray, List.nil_append, List.cons_append]
  gi_wp2_with (gi_at_call 197; refine (callsIn_wide.2 (rg_alive_nil _)).mono ?_; rintro e w' ⟨rfl, rfl⟩)
  refine bodyPost_ret (results_none rfl _ _ _) rfl ?_
  exact ⟨⟨_, rfl⟩, .inl ⟨_, rfl, h0⟩⟩

/-- Where the list lies that an iterator goes through. -/
def ListAt (X : Nat → Prop) (bx : Nat) (sa : Option Addr) (xs : List Int) (w : World) : Prop :=
  xs = [] ∨ ∃ g tail, sa = some ⟨g, 0, none⟩ ∧ Row w g 3 ((xs.map fun i => .int .i64 i) ++ tail) ∧ ¬ X g ∧ boxRow w bx ≠ some g

theorem ListAt.kp {X : Nat → Prop} {bx : Nat} {sa : Option Addr} {xs : List Int} {w w' : World} (h : ListAt X bx sa xs w) (hk : KpX X bx w w') : ListAt X bx sa xs w' := by
  rcases h with h | ⟨g, tail, h1, h2, h3, h4⟩
  · exact .inl h
  · have := hk.row_cells h2 h3 h4
    exact .inr ⟨g, tail, h1, this.1, h3, this.2⟩

set_option maxRecDepth 100000 in
set_option maxHeartbeats 2000000 in
/-- The iterator over a ring's things, for every loop body that keeps what it reads. -/
theorem rg_All1 (n : Nat) (hn : 1 ≤ n) (l Bn : Nat) (X : Nat → Prop) (bx : Nat) (p q : Nat) (r : Rg) (J Jx : List Int → World → Prop) (W : World) (h : RgAt W p q r) (hX : ∀ k, X k → k < W.heap.size) (hbx : ∀ k, boxRow W bx = some k → k < W.heap.size) (hbl : bx < W.heap.size)
    (hJ : AbidesFrom W.heap.size J)
    (hY : ∀ pre x W1, J pre W1 → pre.length < r.items.length → YieldAt Fence.wide (n - 1) Try.prog l #[.int .i64 x] W1 fun e W' => (e = .returned (.bool true) ∧ J (pre ++ [x]) W' ∧ KpX X bx W1 W') ∨ (e = .returned (.bool false) ∧ Jx (pre ++ [x]) W'))
    (hBn : W.cell? ⟨Bn, 0, none⟩ = some (.pointer (some ⟨p, 0, none⟩))) (h0 : J [] W) :
    CallsIn Fence.wide n Try.prog 199 #[.func (.yield l) #[] #[], .pointer (some ⟨Bn, 0, none⟩)] W (Iter r.items J Jx) := by
  have ha := rg_alive W p q r h
  have hl := rg_list W p q r h
  have hil := r.items_length
  have b1 := h.2.n; have b2 := h.2.len; have b3 := h.2.room
  have hitems : r.items.length ≤ 65536 := by omega
  clear h b1 b2 b3 hil
  generalize r.items = xs at *
  have hf1 : Fence.wide.fn 197 := trivial
  have hf2 : Fence.wide.fn 200 := trivial
  have hw0 : Fence.wide.depth.isSome = false := rfl
  refine callsIn_of_wp Try.func199 rfl trivial ?_ rfl
  simp only [Try.ntmps199, List.size_toArray, List.length_cons, List.length_nil, Nat.reduceAdd, Nat.reduceSub, Array.replicate_succ, Array.replicate_zero, List.push_toArray, List.append_toArray, List.nil_append, List.cons_append]
  gi_wp2_with (first | (gi_at_call 197; refine (callsIn_wide.2 ha).mono ?_; rintro e w' ⟨rfl, rfl⟩) | (gi_at_call 200; refine (callsIn_wide.2 hl).mono ?_; rintro e w1 ⟨v, rfl, hO, hk1⟩; obtain ⟨sa, scap, rfl, hs1, hs2⟩ := owns_slice hO))
  have hs3 : scap ≤ 9223372036854775807 := by unfold maxLen at hs2; exact hs2
  have hL : ListAt X bx sa xs w1 := by
    rcases owns_row hO with ⟨_, _, h2⟩ | ⟨g, cap', tail, h1, hb, hg, _⟩
    · exact .inl (by simpa using h2)
    · injection h1 with h1
      refine .inr ⟨g, tail, h1, hg, fun e => by have := hX g e; omega, fun e => ?_⟩
      rw [boxRow_of (hk1.block bx hbl (by simp))] at e
      have := hbx g e
      omega
  have hJ1 : J [] w1 := hJ _ _ _ none h0 hk1.grownNone (fun r e => by cases e)
  clear hO ha hl hJ h0 hk1 hX hbx hbl hBn hs2
  gi_loopw [11] (fun i wr => ∃ k : Nat, k ≤ xs.length ∧ i = .int .i64 k ∧ J (xs.take k) wr ∧ ListAt X bx sa xs wr) (fun i _ => xs.length - (intOf i).toNat)
  case atStart => exact ⟨0, Nat.zero_le _, rfl, by rw [List.take_zero]; exact hJ1, hL⟩
  case round =>
    clear hJ1 hL
    obtain ⟨k, hk, rfl, hJs, hLs⟩ := hrel
    by_cases hlt : k < xs.length
    · have hL2 := hLs
      obtain ⟨g, tail, rfl, hg, _⟩ : ∃ g tail, sa = some ⟨g, 0, none⟩ ∧ Row wr g 3 ((xs.map fun i => .int .i64 i) ++ tail) ∧ True := by
        rcases hLs with h | ⟨g, tail, h1, h2, _⟩
        · rw [h] at hlt; simp at hlt
        · exact ⟨g, tail, h1, h2, trivial⟩
      have hget := List.getElem?_eq_getElem hlt
      have hcx : wr.cell? ⟨g, k, none⟩ = some (.int .i64 xs[k]) := hg.cell (by rw [List.getElem?_append_left (by simpa using hlt), List.getElem?_map, hget]; rfl)
      obtain ⟨fn, tmps, assign, body, hy, hR⟩ := hY _ xs[k] wr hJs (by rw [List.length_take]; omega)
      have hts := List.take_succ_eq_append_getElem hlt
      rw [← hts] at hR
      have HL := Lib.hid hL2
      have hpre : xs.take (k + 1) <+: xs := List.take_prefix _ _
      clear hLs hL2 hg hget hts hY hJs
      generalize xs[k] = x at *
      generalize hpe : xs.take (k + 1) = pre at *
      have HPE := Lib.hid hpe
      clear hpe
      gi_wp2
      refine hR.mono ?_
      rintro e W3 (⟨rfl, hJ3, hk3⟩ | ⟨rfl, hJx3⟩)
      · gi_wp2
        exact ⟨⟨k + 1, by omega, by go_num, by rw [HPE.out]; exact hJ3, HL.out.kp hk3⟩, by simp [intOf]; omega⟩
      · gi_wp2
        refine bodyPost_ret (results_none rfl _ _ _) rfl ?_
        exact ⟨⟨_, rfl⟩, .inr ⟨_, hpre, hJx3⟩⟩
    · obtain rfl : k = xs.length := by omega
      rw [List.take_length] at hJs
      clear hLs hY
      gi_wp2
      go_end0
      exact ⟨⟨_, rfl⟩, .inl ⟨_, rfl, hJs⟩⟩

/-- What All answers for a ring. -/
theorem rg_All_stops (n : Nat) (hn : 1 ≤ n) (Bn : Nat) (X : Nat → Prop) (bx : Nat) (p q : Nat) (r : Rg) (w : World) (h : RgAt w p q r) (hX : ∀ k, X k → k < w.heap.size) (hbx : ∀ k, boxRow w bx = some k → k < w.heap.size) (hbl : bx < w.heap.size)
    (hBl : Bn < w.heap.size) (hBn : w.cell? ⟨Bn, 0, none⟩ = some (.pointer (some ⟨p, 0, none⟩))) :
    SeqStopsK Fence.wide n Try.prog 199 #[.pointer (some ⟨Bn, 0, none⟩)] (fun x : Int => #[Value.int .i64 x]) (KpX X bx) (fun ys => ys = r.items) (fun pre => pre <+: r.items) r.items.length w := fun l J Jx W hW hJ _ hY h0 => by
  have hk := Kept.of_below hW []
  have hp : p < w.heap.size := by obtain ⟨⟨a, cap, tail, hx⟩, _⟩ := h; exact hx.1.lt
  refine rg_All1 n hn l Bn X bx p q r J Jx W (h.kept hk (by simp) (by simp)) (fun k hk2 => by have := hX k hk2; have := hW.size; omega) (fun k hk2 => ?_) (by have := hW.size; omega) hJ hY ((hW.cell (p := ⟨Bn, 0, none⟩) hBl).trans hBn) h0
  rw [boxRow_of (hW.block bx hbl)] at hk2
  have := hbx k hk2
  have := hW.size
  omega

theorem rg_All_stops_nil (n : Nat) (hn : 1 ≤ n) (Bn : Nat) (X : Nat → Prop) (bx : Nat) (w : World) (hBl : Bn < w.heap.size) (hBn : w.cell? ⟨Bn, 0, none⟩ = some (.pointer none)) :
    SeqStopsK Fence.wide n Try.prog 199 #[.pointer (some ⟨Bn, 0, none⟩)] (fun x : Int => #[Value.int .i64 x]) (KpX X bx) (fun ys => ys = []) (fun pre => pre <+: []) 0 w := fun l J Jx W hW _ _ _ h0 =>
  rg_All1_nil n hn l Bn J Jx W ((hW.cell (p := ⟨Bn, 0, none⟩) hBl).trans hBn) h0

end Go.Proofs.Ytopgfhcgfpceaaa
