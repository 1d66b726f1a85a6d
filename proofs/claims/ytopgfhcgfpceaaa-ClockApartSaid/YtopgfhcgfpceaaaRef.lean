/- The document's clock (package tappetref16) in memory: the same plain clock, its own cells. -/
import Derived.Test.YtopgfhcgfpceaaaClkK
namespace Go.Proofs.Ytopgfhcgfpceaaa
open Go.RowKit

def Clk.rcells (c : Clk) (nm : ByteArray) (bs : Int) (a : Option Addr) (cap : Nat) : List Value := [.bool true, .string nm, .int .u32 c.most, .int .u32 bs, .int .u32 c.least, .int .u32 c.value, .slice a c.al.length cap]

def RefX (w : World) (p q : Nat) (nm : ByteArray) (bs : Int) (a : Option Addr) (cap : Nat) (tail : List Value) (c : Clk) : Prop :=
  Row w p 73 (c.rcells nm bs a cap) ∧ (c.al = [] ∨ (a = some ⟨q, 0, none⟩ ∧ Row w q 212 (c.al.flatMap Alm.enc ++ tail) ∧ p ≠ q)) ∧ c.al.length ≤ cap ∧ cap ≤ 9223372036854775807 ∧ (a = none → cap = 0)

def RefAt (w : World) (p q : Nat) (c : Clk) : Prop := (∃ nm bs a cap tail, RefX w p q nm bs a cap tail c) ∧ c.wf

section
variable {w : World} {p q : Nat} {nm : ByteArray} {bs : Int} {a : Option Addr} {cap : Nat} {tail : List Value} {c : Clk}
theorem RefX.row (h : RefX w p q nm bs a cap tail c) : Row w p 73 (c.rcells nm bs a cap) := h.1
theorem RefX.c0 (h : RefX w p q nm bs a cap tail c) : w.cell? ⟨p, 0, none⟩ = some (.bool true) := h.row.cell rfl
theorem RefX.c1 (h : RefX w p q nm bs a cap tail c) : w.cell? ⟨p, 1, none⟩ = some (.string nm) := h.row.cell rfl
theorem RefX.c2 (h : RefX w p q nm bs a cap tail c) : w.cell? ⟨p, 2, none⟩ = some (.int .u32 c.most) := h.row.cell rfl
theorem RefX.c3 (h : RefX w p q nm bs a cap tail c) : w.cell? ⟨p, 3, none⟩ = some (.int .u32 bs) := h.row.cell rfl
theorem RefX.c4 (h : RefX w p q nm bs a cap tail c) : w.cell? ⟨p, 4, none⟩ = some (.int .u32 c.least) := h.row.cell rfl
theorem RefX.c5 (h : RefX w p q nm bs a cap tail c) : w.cell? ⟨p, 5, none⟩ = some (.int .u32 c.value) := h.row.cell rfl
theorem RefX.c6 (h : RefX w p q nm bs a cap tail c) : w.cell? ⟨p, 6, none⟩ = some (.slice a c.al.length cap) := h.row.cell rfl
theorem RefX.on (h : RefX w p q nm bs a cap tail c) {i : Nat} (hi : i < c.al.length) : a = some ⟨q, 0, none⟩ ∧ Row w q 212 (c.al.flatMap Alm.enc ++ tail) ∧ p ≠ q := by
  rcases h.2.1 with h1 | h1
  · rw [h1] at hi; simp at hi
  · exact h1
theorem flat_app {i j : Nat} {x : Alm} (hi : c.al[i]? = some x) (hj : j < 3) : (c.al.flatMap Alm.enc ++ tail)[i * 3 + j]? = x.enc[j]? := by
  have h1 := (List.getElem?_eq_some_iff.1 hi).1
  have h2 := flat_length Alm.enc_length c.al
  rw [List.getElem?_append_left (by omega), flat_get Alm.enc_length _ i j x hi hj]
theorem RefX.arow (h : RefX w p q nm bs a cap tail c) {i : Nat} (hi : i < c.al.length) : Row w q 212 (c.al.flatMap Alm.enc ++ tail) := (h.on hi).2.1
theorem RefX.ne (h : RefX w p q nm bs a cap tail c) {i : Nat} (hi : i < c.al.length) : p ≠ q := (h.on hi).2.2
theorem get_lt {i : Nat} {x : Alm} (hi : c.al[i]? = some x) : i < c.al.length := (List.getElem?_eq_some_iff.1 hi).1
theorem RefX.a0 (h : RefX w p q nm bs a cap tail c) {i : Nat} {x : Alm} (hi : c.al[i]? = some x) : w.cell? ⟨q, i * 3, none⟩ = some (.bool x.set) :=
  (h.arow (get_lt hi)).cell (by rw [show i * 3 = i * 3 + 0 by omega, flat_app hi (by omega)]; rfl)
theorem RefX.a1 (h : RefX w p q nm bs a cap tail c) {i : Nat} {x : Alm} (hi : c.al[i]? = some x) : w.cell? ⟨q, i * 3 + 1, none⟩ = some (.int .u64 x.left) :=
  (h.arow (get_lt hi)).cell (by rw [flat_app hi (by omega)]; rfl)
theorem RefX.a2 (h : RefX w p q nm bs a cap tail c) {i : Nat} {x : Alm} (hi : c.al[i]? = some x) : w.cell? ⟨q, i * 3 + 2, none⟩ = some (.int .u32 x.cycle) :=
  (h.arow (get_lt hi)).cell (by rw [flat_app hi (by omega)]; rfl)

theorem RefX.kept {w' : World} {S : List Nat} (h : RefX w p q nm bs a cap tail c) (hk : Kept S w w') (hp : p ∉ S) (hq : q ∉ S) : RefX w' p q nm bs a cap tail c :=
  ⟨h.1.kept hk hp, h.2.1.imp id fun h1 => ⟨h1.1, h1.2.1.kept hk hq, h1.2.2⟩, h.2.2⟩
theorem RefAt.kept {w' : World} {S : List Nat} (h : RefAt w p q c) (hk : Kept S w w') (hp : p ∉ S) (hq : q ∉ S) : RefAt w' p q c := by
  obtain ⟨⟨nm, bs, a, cap, tail, hx⟩, hw⟩ := h
  exact ⟨⟨nm, bs, a, cap, tail, hx.kept hk hp hq⟩, hw⟩
theorem RefAt.lt (h : RefAt w p q c) : p < w.heap.size := by
  obtain ⟨⟨nm, bs, a, cap, tail, hx⟩, hw⟩ := h
  exact hx.row.lt
theorem RefAt.wf (h : RefAt w p q c) : c.wf := h.2

theorem RefX.setA (h : RefX w p q nm bs a cap tail c) {i : Nat} {x : Alm} (hi : c.al[i]? = some x) (x' : Alm) (j : Nat) (v : Value) (hj : j < 3) (he : x'.enc = x.enc.set j v) :
    RefX (w.setCell ⟨q, i * 3 + j, none⟩ v) p q nm bs a cap tail { c with al := c.al.set i x' } := by
  obtain ⟨e, hr, hne⟩ := h.on (get_lt hi)
  refine ⟨?_, .inr ⟨e, ?_, hne⟩, by simpa using h.2.2⟩
  · have e : ({ c with al := c.al.set i x' } : Clk).rcells nm bs a cap = c.rcells nm bs a cap := by simp [Clk.rcells]
    rw [e]
    exact h.row.set_ne (Ne.symm hne) _
  · have r := hr.set (i * 3 + j) v
    have h1 := get_lt hi
    rw [List.set_append_left _ _ (by rw [flat_length Alm.enc_length]; omega), flat_set Alm.enc_length c.al i j x x' v hi hj he] at r
    exact r

theorem RefX.set3 (h : RefX w p q nm bs a cap tail c) {i : Nat} (hi : i < c.al.length) (x : Alm) :
    RefX (((w.setCell ⟨q, i * 3, none⟩ (.bool x.set)).setCell ⟨q, i * 3 + 1, none⟩ (.int .u64 x.left)).setCell ⟨q, i * 3 + 2, none⟩ (.int .u32 x.cycle)) p q nm bs a cap tail { c with al := c.al.set i x } := by
  have h1 := h.setA (List.getElem?_eq_getElem hi) ⟨x.set, c.al[i].left, c.al[i].cycle⟩ 0 (.bool x.set) (by omega) rfl
  have h2 := h1.setA (i := i) (x := ⟨x.set, c.al[i].left, c.al[i].cycle⟩) (by simp [hi]) ⟨x.set, x.left, c.al[i].cycle⟩ 1 (.int .u64 x.left) (by omega) rfl
  have h3 := h2.setA (i := i) (x := ⟨x.set, x.left, c.al[i].cycle⟩) (by simp [hi]) x 2 (.int .u32 x.cycle) (by omega) rfl
  simpa using h3

theorem RefX.setV (h : RefX w p q nm bs a cap tail c) (v : Int) : RefX (w.setCell ⟨p, 5, none⟩ (.int .u32 v)) p q nm bs a cap tail { c with value := v } :=
  ⟨h.row.set 5 (.int .u32 v), h.2.1.imp id fun h1 => ⟨h1.1, h1.2.1.set_ne h1.2.2 _, h1.2.2⟩, h.2.2⟩
end
end Go.Proofs.Ytopgfhcgfpceaaa
