/- Clocks and their alarms as plain data: no program in sight. -/
import Derived.Test.YtopgfhcgfpceaaaHeap
namespace Go.Proofs.Ytopgfhcgfpceaaa
open Go.RowKit

structure Alm where
  set : Bool
  left : Int
  cycle : Int
  deriving DecidableEq

def Alm.zero : Alm := ⟨false, 0, 0⟩
def Alm.enc (a : Alm) : List Value := [.bool a.set, .int .u64 a.left, .int .u32 a.cycle]
theorem Alm.enc_length (a : Alm) : a.enc.length = 3 := rfl

structure Clk where
  most : Int
  least : Int
  value : Int
  al : List Alm

structure Alm.wf (m : Int) (a : Alm) : Prop where
  l0 : 0 ≤ a.left
  l1 : a.left ≤ m + 1
  c0 : 0 ≤ a.cycle
  c1 : a.cycle ≤ m
  on : a.set = true → 1 ≤ a.left
  off : a.set = false → a = Alm.zero

structure Clk.wf (c : Clk) : Prop where
  m0 : 1 ≤ c.most
  m1 : c.most ≤ 2147483647
  e0 : 1 ≤ c.least
  e1 : c.least ≤ c.most
  v0 : 0 ≤ c.value
  v1 : c.value ≤ c.most
  n : c.al.length ≤ 64
  a : ∀ a ∈ c.al, a.wf c.most

def Clk.cells (c : Clk) (q : Nat) : List Value := [.bool true, .int .u32 c.most, .int .u32 c.least, .int .u32 c.value, .slice (some ⟨q, 0, none⟩) c.al.length c.al.length]

/-- A clock in memory: its five cells, its alarms. -/
def RawAt (w : World) (p q : Nat) (c : Clk) : Prop :=
  Row w p 173 (c.cells q) ∧ Row w q 182 (c.al.flatMap Alm.enc) ∧ p ≠ q

def ClockAt (w : World) (p q : Nat) (c : Clk) : Prop := RawAt w p q c ∧ c.wf

section
variable {w : World} {p q : Nat} {c : Clk}
theorem RawAt.row (h : RawAt w p q c) : Row w p 173 (c.cells q) := h.1
theorem RawAt.arow (h : RawAt w p q c) : Row w q 182 (c.al.flatMap Alm.enc) := h.2.1
theorem RawAt.ne (h : RawAt w p q c) : p ≠ q := h.2.2
theorem ClockAt.row (h : ClockAt w p q c) : Row w p 173 (c.cells q) := h.1.1
theorem ClockAt.arow (h : ClockAt w p q c) : Row w q 182 (c.al.flatMap Alm.enc) := h.1.2.1
theorem ClockAt.ne (h : ClockAt w p q c) : p ≠ q := h.1.2.2
theorem ClockAt.wf (h : ClockAt w p q c) : c.wf := h.2

theorem RawAt.kept {w' : World} {S : List Nat} (h : RawAt w p q c) (hk : Kept S w w') (hp : p ∉ S) (hq : q ∉ S) : RawAt w' p q c :=
  ⟨h.row.kept hk hp, h.arow.kept hk hq, h.ne⟩
theorem ClockAt.kept {w' : World} {S : List Nat} (h : ClockAt w p q c) (hk : Kept S w w') (hp : p ∉ S) (hq : q ∉ S) : ClockAt w' p q c :=
  ⟨h.1.kept hk hp hq, h.2⟩

theorem RawAt.c0 (h : RawAt w p q c) : w.cell? ⟨p, 0, none⟩ = some (.bool true) := h.row.cell rfl
theorem RawAt.c1 (h : RawAt w p q c) : w.cell? ⟨p, 1, none⟩ = some (.int .u32 c.most) := h.row.cell rfl
theorem RawAt.c2 (h : RawAt w p q c) : w.cell? ⟨p, 2, none⟩ = some (.int .u32 c.least) := h.row.cell rfl
theorem RawAt.c3 (h : RawAt w p q c) : w.cell? ⟨p, 3, none⟩ = some (.int .u32 c.value) := h.row.cell rfl
theorem RawAt.c4 (h : RawAt w p q c) : w.cell? ⟨p, 4, none⟩ = some (.slice (some ⟨q, 0, none⟩) c.al.length c.al.length) := h.row.cell rfl
theorem RawAt.a0 (h : RawAt w p q c) {i : Nat} {a : Alm} (hi : c.al[i]? = some a) : w.cell? ⟨q, i * 3, none⟩ = some (.bool a.set) :=
  h.arow.cell (by rw [show i * 3 = i * 3 + 0 by omega, flat_get Alm.enc_length _ i 0 a hi (by omega)]; rfl)
theorem RawAt.a1 (h : RawAt w p q c) {i : Nat} {a : Alm} (hi : c.al[i]? = some a) : w.cell? ⟨q, i * 3 + 1, none⟩ = some (.int .u64 a.left) :=
  h.arow.cell (by rw [flat_get Alm.enc_length _ i 1 a hi (by omega)]; rfl)
theorem RawAt.a2 (h : RawAt w p q c) {i : Nat} {a : Alm} (hi : c.al[i]? = some a) : w.cell? ⟨q, i * 3 + 2, none⟩ = some (.int .u32 a.cycle) :=
  h.arow.cell (by rw [flat_get Alm.enc_length _ i 2 a hi (by omega)]; rfl)
theorem ClockAt.c0 (h : ClockAt w p q c) : w.cell? ⟨p, 0, none⟩ = some (.bool true) := h.1.c0
theorem ClockAt.c1 (h : ClockAt w p q c) : w.cell? ⟨p, 1, none⟩ = some (.int .u32 c.most) := h.1.c1
theorem ClockAt.c2 (h : ClockAt w p q c) : w.cell? ⟨p, 2, none⟩ = some (.int .u32 c.least) := h.1.c2
theorem ClockAt.c3 (h : ClockAt w p q c) : w.cell? ⟨p, 3, none⟩ = some (.int .u32 c.value) := h.1.c3
theorem ClockAt.c4 (h : ClockAt w p q c) : w.cell? ⟨p, 4, none⟩ = some (.slice (some ⟨q, 0, none⟩) c.al.length c.al.length) := h.1.c4
theorem ClockAt.a0 (h : ClockAt w p q c) {i : Nat} {a : Alm} (hi : c.al[i]? = some a) : w.cell? ⟨q, i * 3, none⟩ = some (.bool a.set) := h.1.a0 hi
theorem ClockAt.a1 (h : ClockAt w p q c) {i : Nat} {a : Alm} (hi : c.al[i]? = some a) : w.cell? ⟨q, i * 3 + 1, none⟩ = some (.int .u64 a.left) := h.1.a1 hi
theorem ClockAt.a2 (h : ClockAt w p q c) {i : Nat} {a : Alm} (hi : c.al[i]? = some a) : w.cell? ⟨q, i * 3 + 2, none⟩ = some (.int .u32 a.cycle) := h.1.a2 hi
end

theorem Clk.set_wf {c : Clk} (h : c.wf) (i : Nat) {a : Alm} (ha : a.wf c.most) : ({ c with al := c.al.set i a } : Clk).wf :=
  ⟨h.m0, h.m1, h.e0, h.e1, h.v0, h.v1, by simpa using h.n, fun b hb => by
    rcases List.mem_or_eq_of_mem_set hb with h5 | rfl
    · exact h.a b h5
    · exact ha⟩

theorem Clk.set_same {c : Clk} {i : Nat} {a : Alm} (h : c.al[i]? = some a) : ({ c with al := c.al.set i a } : Clk) = c := by
  obtain ⟨hi, he⟩ := List.getElem?_eq_some_iff.1 h
  subst he
  simp

theorem ClockAt.drewN {w : World} {p q : Nat} {c : Clk} (h : ClockAt w p q c) (n : Nat) : ClockAt (w.drewN n) p q c := h

theorem RawAt.setA {w : World} {p q : Nat} {c : Clk} (h : RawAt w p q c) {i : Nat} {a : Alm} (hi : c.al[i]? = some a) (a' : Alm) (j : Nat) (v : Value) (hj : j < 3) (he : a'.enc = a.enc.set j v) :
    RawAt (w.setCell ⟨q, i * 3 + j, none⟩ v) p q { c with al := c.al.set i a' } := by
  refine ⟨?_, ?_, h.ne⟩
  · have e : ({ c with al := c.al.set i a' } : Clk).cells q = c.cells q := by simp [Clk.cells]
    rw [e]
    exact h.row.set_ne (Ne.symm h.ne) _
  · have r := h.arow.set (i * 3 + j) v
    rw [flat_set Alm.enc_length c.al i j a a' v hi hj he] at r
    exact r

theorem ClockAt.setA {w : World} {p q : Nat} {c : Clk} (h : ClockAt w p q c) {i : Nat} {a : Alm} (hi : c.al[i]? = some a) (a' : Alm) (j : Nat) (v : Value) (hj : j < 3) (he : a'.enc = a.enc.set j v) (ha : a'.wf c.most) :
    ClockAt (w.setCell ⟨q, i * 3 + j, none⟩ v) p q { c with al := c.al.set i a' } :=
  ⟨h.1.setA hi a' j v hj he, Clk.set_wf h.wf i ha⟩

/-- An alarm written whole. -/
theorem RawAt.set3 {w : World} {p q : Nat} {c : Clk} (h : RawAt w p q c) {i : Nat} (hi : i < c.al.length) (a : Alm) :
    RawAt (((w.setCell ⟨q, i * 3, none⟩ (.bool a.set)).setCell ⟨q, i * 3 + 1, none⟩ (.int .u64 a.left)).setCell ⟨q, i * 3 + 2, none⟩ (.int .u32 a.cycle)) p q { c with al := c.al.set i a } := by
  have h1 := h.setA (List.getElem?_eq_getElem hi) ⟨a.set, c.al[i].left, c.al[i].cycle⟩ 0 (.bool a.set) (by omega) rfl
  have h2 := h1.setA (i := i) (a := ⟨a.set, c.al[i].left, c.al[i].cycle⟩) (by simp [hi]) ⟨a.set, a.left, c.al[i].cycle⟩ 1 (.int .u64 a.left) (by omega) rfl
  have h3 := h2.setA (i := i) (a := ⟨a.set, a.left, c.al[i].cycle⟩) (by simp [hi]) a 2 (.int .u32 a.cycle) (by omega) rfl
  simpa using h3

theorem ClockAt.set3 {w : World} {p q : Nat} {c : Clk} (h : ClockAt w p q c) {i : Nat} (hi : i < c.al.length) (a : Alm) (ha : a.wf c.most) :
    ClockAt (((w.setCell ⟨q, i * 3, none⟩ (.bool a.set)).setCell ⟨q, i * 3 + 1, none⟩ (.int .u64 a.left)).setCell ⟨q, i * 3 + 2, none⟩ (.int .u32 a.cycle)) p q { c with al := c.al.set i a } :=
  ⟨h.1.set3 hi a, Clk.set_wf h.wf i ha⟩

theorem ClockAt.setV {w : World} {p q : Nat} {c : Clk} (h : ClockAt w p q c) (v : Int) (h0 : 0 ≤ v) (h1 : v ≤ c.most) : ClockAt (w.setCell ⟨p, 3, none⟩ (.int .u32 v)) p q { c with value := v } := by
  have h5 := h.wf
  exact ⟨⟨h.row.set 3 (.int .u32 v), h.arow.set_ne h.ne _, h.ne⟩, ⟨h5.m0, h5.m1, h5.e0, h5.e1, h0, h1, h5.n, h5.a⟩⟩

theorem kept_q {w : World} {q a b : Nat} {u v x : Value} (c : Nat) (m : Nat) : Kept [q] w ((((w.drewN m).setCell ⟨q, a, none⟩ u).setCell ⟨q, b, none⟩ v).setCell ⟨q, c, none⟩ x) :=
  (((Kept.mk rfl rfl rfl (Nat.le_refl _) (fun _ _ _ => rfl) : Kept [q] w (w.drewN m)).setCell (by simp) _).setCell (by simp) _).setCell (by simp) _

def Clk.has (c : Clk) (n : Int) : Bool := decide (0 ≤ n) && decide (n < c.al.length)
def Clk.at (c : Clk) (n : Int) : Alm := c.al[n.toNat]?.getD Alm.zero
def Clk.cyc (c : Clk) (n : Int) : Bool := n == 0 || (decide (c.least ≤ n) && decide (n ≤ c.most))

/-- An alarm is set, where all is well. -/
def Clk.put (c : Clk) (n : Int) (fine : Bool) (left cycle : Int) : Int × Clk :=
  if c.has n = false then (3, c)
  else if (c.at n).set = true then (7, c)
  else if fine = false then (8, c)
  else (0, { c with al := c.al.set n.toNat ⟨true, left, cycle⟩ })

def until_ (g a b : Int) : Int := let a := min a g; let b := min b g; if b > a then b - a else g + 1 - a + b
def after_ (g a t : Int) : Int := (min a g + t % (g + 1)) % (g + 1)

def Clk.rel (c : Clk) (n ticks cycle : Int) : Int × Clk := c.put n (decide (1 ≤ ticks) && decide (ticks ≤ c.most) && c.cyc cycle) ticks cycle
def Clk.abs (c : Clk) (n value cycle : Int) : Int × Clk := c.put n (decide (value ≤ c.most) && c.cyc cycle) (until_ c.most c.value value) cycle
def Clk.set (c : Clk) (n ticks cycle : Int) : Int × Clk := c.put n (decide (1 ≤ ticks) && decide (ticks ≤ c.most + 1) && decide (cycle ≤ c.most)) ticks cycle

/-- What an alarm tells, if it is set. -/
def Clk.of (c : Clk) (n : Int) : Alm × Int :=
  if c.has n = false then (Alm.zero, 3) else if (c.at n).set = false then (Alm.zero, 5) else (c.at n, 0)
def Clk.cancel (c : Clk) (n : Int) : Int × Clk := ((c.of n).2, if (c.of n).2 = 0 then { c with al := c.al.set n.toNat Alm.zero } else c)

/-- d ticks of one alarm, d at most what it has left: how it stands behind. -/
def Alm.step (a : Alm) (d : Int) : Alm :=
  if a.set = false then a else if a.left - d > 0 then { a with left := a.left - d } else if a.cycle = 0 then Alm.zero else { a with left := a.cycle }
def Alm.fires (a : Alm) (d : Int) : Bool := a.set && decide (a.left - d ≤ 0)
def firedTo (l : List Alm) (d : Int) (k : Nat) : List Nat := (List.range k).filter fun i => (l[i]?.getD Alm.zero).fires d
def fired (l : List Alm) (d : Int) : List Nat := firedTo l d l.length
def Clk.tick (c : Clk) : Clk := { c with value := after_ c.most c.value 1, al := c.al.map (·.step 1) }

theorem firedTo_succ (l : List Alm) (d : Int) (k : Nat) : firedTo l d (k + 1) = firedTo l d k ++ bif (l[k]?.getD Alm.zero).fires d then [k] else [] := by
  unfold firedTo
  rw [List.range_succ, List.filter_append]
  cases h : (l[k]?.getD Alm.zero).fires d <;> simp [h]

theorem firedTo_length (l : List Alm) (d : Int) (k : Nat) : (firedTo l d k).length ≤ k := by
  unfold firedTo
  exact Nat.le_trans (List.length_filter_le _ _) (by simp)

theorem firedTo_lt (l : List Alm) (d : Int) (k : Nat) : ∀ i ∈ firedTo l d k, i < k := by
  intro i hi
  unfold firedTo at hi
  simpa using (List.mem_filter.1 hi).1

/-- Behind the first k alarms' steps. -/
def Clk.mid (c : Clk) (d : Int) (k : Nat) : Clk := { c with al := (c.al.take k).map (·.step d) ++ c.al.drop k }

theorem Clk.mid_zero (c : Clk) (d : Int) : c.mid d 0 = c := by simp [Clk.mid]
theorem Clk.mid_all (c : Clk) (d : Int) : c.mid d c.al.length = { c with al := c.al.map (·.step d) } := by simp [Clk.mid]
theorem Clk.mid_length (c : Clk) (d : Int) (k : Nat) : (c.mid d k).al.length = c.al.length := by simp [Clk.mid]; omega
theorem Clk.mid_get (c : Clk) (d : Int) (k : Nat) (h : k < c.al.length) : (c.mid d k).al[k]? = some c.al[k] := by
  simp only [Clk.mid]
  rw [List.getElem?_append_right (by simp; omega)]
  simp only [List.length_map, List.length_take, List.getElem?_drop]
  rw [Nat.min_eq_left (by omega), show k + (k - k) = k by omega, List.getElem?_eq_getElem h]
theorem Clk.mid_succ (c : Clk) (d : Int) (k : Nat) (h : k < c.al.length) : c.mid d (k + 1) = { (c.mid d k) with al := (c.mid d k).al.set k (c.al[k].step d) } := by
  simp only [Clk.mid]
  congr 1
  rw [List.take_succ_eq_append_getElem h, List.map_append, List.append_assoc, List.set_append_right _ _ (by simp; omega)]
  congr 1
  simp only [List.length_map, List.length_take]
  rw [Nat.min_eq_left (by omega), Nat.sub_self]
  have e : List.drop k c.al = c.al[k] :: List.drop (k + 1) c.al := List.drop_eq_getElem_cons h
  rw [e]
  rfl

theorem Alm.step_wf {a : Alm} {m d : Int} (h : a.wf m) (hd : 0 ≤ d) (hm : 0 ≤ m) : (a.step d).wf m := by
  unfold Alm.step
  split
  · exact h
  · rename_i hs
    split
    · rename_i hl
      exact ⟨by simp; omega, by simp; have := h.l1; omega, h.c0, h.c1, fun _ => by simp; omega, fun he => absurd he (by simpa using hs)⟩
    · split
      · exact ⟨by simp [Alm.zero], by simp [Alm.zero]; omega, by simp [Alm.zero], by simp [Alm.zero]; omega, by simp [Alm.zero], fun _ => rfl⟩
      · rename_i hc
        have := h.c0
        exact ⟨h.c0, by simp; have := h.c1; omega, h.c0, h.c1, fun _ => by simp; omega, fun he => absurd he (by simpa using hs)⟩

theorem Clk.mid_wf {c : Clk} {d : Int} (h : c.wf) (hd : 0 ≤ d) (k : Nat) : (c.mid d k).wf := by
  refine ⟨h.m0, h.m1, h.e0, h.e1, h.v0, h.v1, by rw [Clk.mid_length]; exact h.n, ?_⟩
  intro a ha
  simp only [Clk.mid, List.mem_append, List.mem_map] at ha
  rcases ha with ⟨b, hb, rfl⟩ | ha
  · exact Alm.step_wf (h.a b (List.mem_of_mem_take hb)) hd (by have := h.m0; simp [Clk.mid]; omega)
  · exact h.a a (List.mem_of_mem_drop ha)

end Go.Proofs.Ytopgfhcgfpceaaa
