/- The laws of clock, their plain part: calls on a clock; what Coming tells against the ticks. -/
import Derived.Test.YtopgfhcgfpceaaaClkJ
namespace Go.Proofs.Ytopgfhcgfpceaaa
open Go.RowKit

structure CAct where
  kind : Int
  alarm : Int
  a : Int
  b : Int

def CAct.enc (x : CAct) : List Value := [.int .i64 x.kind, .int .i64 x.alarm, .int .u32 x.a, .int .u32 x.b]
theorem CAct.enc_length (x : CAct) : x.enc.length = 4 := rfl

structure CAct.wf (x : CAct) : Prop where
  a0 : 0 ≤ x.a
  a1 : x.a ≤ 4294967295
  b0 : 0 ≤ x.b
  b1 : x.b ≤ 4294967295

/-- One call of ClockComing's script. -/
def Clk.runC (c : Clk) (x : CAct) : Clk :=
  if x.kind = 1 then (c.rel x.alarm (x.a % 50) (x.b % 50)).2
  else if x.kind = 2 then (c.abs x.alarm x.a (x.b % 50)).2
  else if x.kind = 5 then c.tick else c

theorem Clk.put_len (c : Clk) (n : Int) (f : Bool) (l k : Int) : (c.put n f l k).2.al.length = c.al.length := by
  unfold Clk.put
  split
  · rfl
  · split
    · rfl
    · split
      · rfl
      · simp

theorem Clk.runC_len (c : Clk) (x : CAct) : (c.runC x).al.length = c.al.length := by
  unfold Clk.runC
  split
  · exact Clk.put_len ..
  · split
    · exact Clk.put_len ..
    · split
      · simp [Clk.tick]
      · rfl

theorem runC_fold_len (l : List CAct) (c : Clk) : (l.foldl Clk.runC c).al.length = c.al.length := by
  induction l generalizing c with
  | nil => rfl
  | cons x l ih => rw [List.foldl_cons, ih, Clk.runC_len]

def Clk.tickN : Nat → Clk → Clk
  | 0, c => c
  | T + 1, c => (Clk.tickN T c).tick

theorem Clk.tickN_al (T : Nat) (c : Clk) : (Clk.tickN T c).al = ticks T c.al := by
  induction T with
  | zero => rfl
  | succ T ih => rw [ticks_succ, ← ih]; rfl

theorem ticks_len (T : Nat) (l : List Alm) : (ticks T l).length = l.length := by
  induction T generalizing l with
  | zero => rfl
  | succ T ih => rw [ticks, ih]; simp [tickA]

theorem coming_is (c : Clk) (h : c.wf) (most : Int) : ∃ T, c.coming most = (evs T c.al 0).take (min most 65536).toNat ∧ ((min most 65536).toNat ≤ (c.coming most).length ∨ ∀ a ∈ ticks T c.al, a.set = false) := by
  obtain ⟨T, h1, h2⟩ := comingGo_evs (min most 65536).toNat ((min most 65536).toNat + 1) c.al 0 [] (fun a ha hs => (h.a a ha).on hs) (fun a ha => (h.a a ha).c0) (by simp)
  refine ⟨T, by unfold Clk.coming; rw [h1, List.nil_append], ?_⟩
  rcases h2 with h2 | h2
  · left
    unfold Clk.coming
    rw [List.length_take]
    omega
  · exact .inr h2

theorem coming_len (c : Clk) (most : Int) : (c.coming most).length ≤ (min most 65536).toNat := by
  unfold Clk.coming
  rw [List.length_take]
  omega

theorem coming_get (c : Clk) (h : c.wf) (most : Int) (S i : Nat) (h1 : i < (c.coming most).length) (h2 : i < (evs S c.al 0).length) : (c.coming most)[i]? = (evs S c.al 0)[i]? := by
  obtain ⟨T, e, _⟩ := coming_is c h most
  rw [e] at h1 ⊢
  rw [List.length_take] at h1
  rw [List.getElem?_take_of_lt (by omega)]
  rcases Nat.le_total S T with h3 | h3
  · exact evs_get h3 _ _ _ h2
  · exact (evs_get h3 _ _ _ (by omega)).symm

theorem evs_at (T j : Nat) (l : List Alm) (i : Nat) (h : (fired (ticks T l) 1)[j]? = some i) : (evs (T + 1) l 0)[(evs T l 0).length + j]? = some ((T : Int) + 1, i) := by
  rw [evs_succ, List.getElem?_append_right (by omega), show (evs T l 0).length + j - (evs T l 0).length = j by omega, List.getElem?_map, h]
  simp

theorem coming_at (c : Clk) (h : c.wf) (most : Int) (T j i : Nat) (hj : (fired (ticks T c.al) 1)[j]? = some i) (h1 : (evs T c.al 0).length + j < (c.coming most).length) :
    (c.coming most)[(evs T c.al 0).length + j]? = some ((T : Int) + 1, i) := by
  have h2 := evs_at T j c.al i hj
  rw [coming_get c h most (T + 1) _ h1 (List.getElem?_eq_some_iff.1 h2).1, h2]

theorem coming_late (c : Clk) (h : c.wf) (most : Int) (S i : Nat) (x : Int × Nat) (hx : (c.coming most)[i]? = some x) (h2 : (evs S c.al 0).length ≤ i) : (S : Int) < x.1 := by
  obtain ⟨T, e, _⟩ := coming_is c h most
  rw [e] at hx
  have h1 := (List.getElem?_eq_some_iff.1 hx).1
  rw [List.length_take] at h1
  rw [List.getElem?_take_of_lt (by omega)] at hx
  have := evs_after c.al 0 i x h2 hx
  omega

theorem coming_done (c : Clk) (h : c.wf) (most : Int) (n : Nat) (hm : (c.coming most).length < (min most 65536).toNat) (hn : (c.coming most).length ≤ (evs n c.al 0).length) : ∀ a ∈ ticks n c.al, a.set = false := by
  obtain ⟨T, e, h2⟩ := coming_is c h most
  rcases h2 with h2 | h2
  · omega
  · have hl : (evs T c.al 0).length = (c.coming most).length := by
      rw [e, List.length_take] at hm ⊢
      omega
    rcases Nat.le_total T n with h3 | h3
    · obtain ⟨U, rfl⟩ : ∃ U, n = T + U := ⟨n - T, by omega⟩
      rw [ticks_add]
      exact unset_stays U _ h2
    · obtain ⟨U, rfl⟩ : ∃ U, T = n + U := ⟨T - n, by omega⟩
      rw [evs_add, List.length_append] at hl
      have : evs U (ticks n c.al) (0 + n) = [] := List.eq_nil_of_length_eq_zero (by omega)
      rw [ticks_add] at h2
      exact set_stays U _ _ this h2

/-- Nothing is set: of each of four alarms is told that it is not. -/
theorem of_unset (c : Clk) (hl : c.al.length = 4) (hs : ∀ a ∈ c.al, a.set = false) (i : Nat) (hi : i < 4) : c.of (i : Int) = (Alm.zero, 5) := by
  have h1 : c.has (i : Int) = true := by simp [Clk.has]; omega
  have h2 : (c.at (i : Int)).set = false := by
    unfold Clk.at
    rw [Int.toNat_natCast, List.getElem?_eq_getElem (by omega)]
    exact hs _ (List.getElem_mem _)
  simp [Clk.of, h1, h2]

end Go.Proofs.Ytopgfhcgfpceaaa
