/- The walk of package ready: Len. -/
import Derived.Test.YtopgfhcgfpceaaaQmD
namespace Go.Proofs.Ytopgfhcgfpceaaa
open Go.RowKit

variable {m : Bool}

theorem q_Len_nil (w : World) : Calls Try.prog 43 #[.pointer none] w fun e w' => e = .returned (.int .i64 0) ∧ w = w' := by
  have hq : ∀ w, (binOp .neq 47 (.pointer none) (.pointer none)).run Try.prog w = .ok (.bool false) w := fun w => by kernel_rfl
  go_enter Try.func43, Try.ntmps43
  go_wp2
  go_ret
  exact ⟨rfl, rfl⟩

/-- An element of an array of pointers. -/
theorem run_index_one (P : Program) (w : World) (t e : TypeId) (n : Nat) (hu : P.underlying t = some (.array n e)) (cs : Array Value) (k : Nat) (v : Value) (hk : k < n) (hv : cs[k]? = some v) (ha : (isAgg e).run P w = .ok false w) (hs : (sizeOf e).run P w = .ok 1 w) :
    (Instr.index t (.agg cs) (.int .i64 k)).run P w = .ok v w := by
  have h1 : (0 : Int) ≤ k ∧ (k : Int) < n := by omega
  simp [Instr.index, asIntOf, run_underlying hu, hs, h1, part, ha, hv]
  intro hx
  omega

theorem q_index (pp : Nat → Nat) (qs : List QR) (k : Nat) (hk : k < 64) (w : World) : (Instr.index 91 (.agg (ringsOf pp qs).toArray) (.int .i64 k)).run Try.prog w = .ok (.pointer (qptr pp qs k)) w :=
  run_index_one Try.prog w _ _ 64 Try.underlying91 _ k _ hk (by rw [List.getElem?_toArray]; exact ringsOf_get pp qs k hk) (Try.isAgg90 w) (Try.sizeOf90 w)

theorem QAtB.range {w : World} {b : Nat} {pp qq : Nat → Nat} {qs : List QR} {bits : Nat} (h : QAtB m w b pp qq qs bits) : w.rangeAt b 1 (ringsOf pp qs) := by
  intro j v hj
  refine h.row.cell ?_
  unfold qcells
  rw [Nat.add_comm 1 j, List.getElem?_cons_succ, List.getElem?_append_left (List.getElem?_eq_some_iff.1 hj).1]
  exact hj

theorem ring_Len_any {w : World} {b : Nat} {pp qq : Nat → Nat} {qs : List QR} {bits : Nat} (h : QAtB m w b pp qq qs bits) (k : Nat) : Calls Try.prog 107 #[.pointer (qptr pp qs k)] w fun e w' => e = .returned (.int .i64 (qring qs k).length) ∧ w = w' := by
  unfold qptr qring
  cases hf : qfind qs k with
  | none => exact rg_Len_nil w
  | some i =>
    obtain ⟨r, h1, _⟩ := qfind_some hf
    simp only [h1, Option.map_some]
    exact ring_Len w _ _ r (h.ring i r h1)

set_option maxRecDepth 100000 in
theorem q_Len (w : World) (b : Nat) (pp qq : Nat → Nat) (qs : List QR) (bits : Nat) (h : QAtB m w b pp qq qs bits) : Calls Try.prog 43 #[.pointer (some ⟨b, 0, none⟩)] w fun e w' => e = .returned (.int .i64 (qlen qs)) ∧ w = w' := by
  have hq : ∀ w b, (binOp .neq 47 (.pointer (some ⟨b, 0, none⟩)) (.pointer none)).run Try.prog w = .ok (.bool true) w := fun w b => by kernel_rfl
  have hra := h.range
  have hRl : (Try.prog.info? 91).map (·.size) = some (ringsOf pp qs).length := by rw [ringsOf_len]; kernel_rfl
  have hu := Try.underlying91
  have hidx := fun k hk => q_index pp qs k hk w
  have hlen := fun k => ring_Len_any h k
  have hsum := qlen_sum h.wf
  have hle := fun k (hk : k ≤ 64) => sumTo_le (f := fun p => (qring qs p).length) (b := 65536) (n := k) fun i _ => qring_len h.wf i
  have hl1 := fun k : Nat => qring_len h.wf k
  rw [← hsum]
  clear h hsum
  go_enter Try.func43, Try.ntmps43
  go_wp2_with (refine wpList_load_mid rfl 91 (.tmp 10) rfl b 1 rfl (ringsOf pp qs) _ hra hu rfl hRl ?_)
  clear hra hRl hu hq
  generalize (ringsOf pp qs).toArray = RS at *
  go_loop [3, 12] (fun n i => ∃ k : Nat, k ≤ 64 ∧ i = .int .i64 k ∧ n = .int .i64 (sumTo (fun p => (qring qs p).length) k)) (fun _ i => 64 - (intOf i).toNat)
  case atStart => exact ⟨0, by omega, rfl, rfl⟩
  case round =>
    obtain ⟨k, hk, rfl, rfl⟩ := hrel
    by_cases hlt : k < 64
    · have hi := hidx k hlt
      have hl := hlen k
      have h1 := hle k hk
      have h2 := hl1 k
      have hs : sumTo (fun p => (qring qs p).length) (k + 1) = sumTo (fun p => (qring qs p).length) k + (qring qs k).length := rfl
      have HS := Lib.hid hs
      clear hidx hlen hle hl1 hs
      generalize (qring qs k).length = c at *
      generalize hsm : sumTo (fun p => (qring qs p).length) k = s at *
      have HM := Lib.hid hsm
      clear hsm
      have hkI : (k : Int) < 64 := by omega
      generalize qptr pp qs k = a at *
      go_wp2_with (go_at_call 107; refine hl.mono ?_; rintro e w' ⟨rfl, rfl⟩)
      go_round
      case rel => exact ⟨k + 1, by omega, by go_num, by rw [HS.out]; go_num⟩
      case measure => simp [intOf]; omega
    · obtain rfl : k = 64 := by omega
      clear hidx hlen hle hl1
      generalize hsm : sumTo (fun p => (qring qs p).length) 64 = s at *
      have HM := Lib.hid hsm
      clear hsm
      go_wp2
      go_ret
      exact ⟨by rw [HM.out]; rfl, rfl⟩
end Go.Proofs.Ytopgfhcgfpceaaa
