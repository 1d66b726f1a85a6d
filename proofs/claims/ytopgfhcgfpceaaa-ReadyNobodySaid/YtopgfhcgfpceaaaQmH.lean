/- The walk of package ready: Copy, whole. -/
import Derived.Test.YtopgfhcgfpceaaaQmG
namespace Go.Proofs.Ytopgfhcgfpceaaa
open Go.RowKit

theorem q_Copy_nil (w : World) : Calls Try.prog 48 #[.pointer none] w fun e w' => e = .returned (.pointer none) ∧ w = w' := by
  have hq := q_nil_eq
  go_enter Try.func48, Try.ntmps48
  go_wp2
  go_ret
  exact ⟨rfl, rfl⟩

/-- A queue of its own. -/
def QCopied (w : World) (qs : List QR) (e : Ending) (w' : World) : Prop := ∃ c F', e = .returned (.pointer (some ⟨c, 0, none⟩)) ∧ QS w' F' c qs ∧ (∀ x ∈ F', w.heap.size ≤ x) ∧ Kept [] w w'

def QCp (w : World) (qs : List QR) (bits k : Nat) (wr : World) : Prop := (∃ pp qq, QPart w.heap.size wr w.heap.size pp qq qs bits k) ∧ Kept [] w wr

theorem QCp.drew {w : World} {qs : List QR} {bits k : Nat} {wr : World} (h : QCp w qs bits k wr) : QCp w qs bits k wr.drew := by
  obtain ⟨⟨pp', qq', hP⟩, hK⟩ := h
  have hk2 : Kept [] wr wr.drew := (Kept.refl _ _).drew
  exact ⟨⟨pp', qq', hP.row.kept hk2 (by simp), fun i r hi hp => by have := hP.ring i r hi hp; exact ⟨this.1.kept hk2 (by simp) (by simp), this.2⟩, hP.d2⟩, hK.drew⟩

set_option maxRecDepth 100000 in
set_option maxHeartbeats 1000000 in
theorem q_Copy (w : World) (F : List Nat) (b : Nat) (qs : List QR) (h : QS w F b qs) : Calls Try.prog 48 #[.pointer (some ⟨b, 0, none⟩)] w (QCopied w qs) := by
  have hq := q_some_eq
  obtain ⟨⟨pp, qq, h1, _⟩, _⟩ := h
  have hwf := h1.wf
  have c0 := h1.c0
  have c65 := h1.c65
  have hbw := h1.row.lt
  have hRl : (Try.prog.info? 91).map (·.size) = some (ringsOf pp qs).length := by rw [ringsOf_len]; kernel_rfl
  have hu := Try.underlying91
  have hidx := fun k hk => q_index pp qs k hk
  have hcp : ∀ k wr, k < 64 → QCp w qs (qbits qs) k wr → Calls Try.prog 130 #[.pointer (qptr pp qs k)] wr (QNext w.heap.size wr w.heap.size qs (qbits qs) k) := by
    rintro k wr hk ⟨⟨pp', qq', hP⟩, hK⟩
    exact ring_Copy_any (h1.kept hK (by simp)) hP hk hK.size
  have hnext : ∀ k wr w' a, QCp w qs (qbits qs) k wr → Kept [] wr w' → (∃ pp qq, QPart w.heap.size (w'.setCell ⟨w.heap.size, 1 + k, none⟩ (.pointer a)) w.heap.size pp qq qs (qbits qs) (k + 1)) → QCp w qs (qbits qs) (k + 1) (w'.setCell ⟨w.heap.size, 1 + k, none⟩ (.pointer a)) := by
    rintro k wr w' a ⟨_, hK⟩ hk ⟨pp', qq', hP⟩
    exact ⟨⟨pp', qq', hP⟩, (hK.trans hk).setCell (.inr (Nat.le_refl _)) _⟩
  have fin : ∀ wr, QCp w qs (qbits qs) 64 wr → QCopied w qs (.returned (.pointer (some ⟨w.heap.size, 0, none⟩))) wr := by
    rintro wr ⟨⟨pp', qq', hP⟩, hK⟩
    obtain ⟨h2, h3⟩ := hP.done hwf (Nat.le_refl _)
    exact ⟨w.heap.size, _, rfl, ⟨⟨pp', qq', h2, fun x hx => hx⟩, fun x hx => (h3 x hx).2⟩, fun x hx => (h3 x hx).1, hK⟩
  have h0 : ∀ V : List Value, V = .bool true :: (List.replicate 64 (.pointer none) ++ [.int .u64 (qbits qs)]) → QCp w qs (qbits qs) 0 (w.alloc (.cells V.toArray 93)) := by
    rintro V rfl
    refine ⟨⟨fun _ => 0, fun _ => 0, ?_, fun i r _ hp => by omega, fun i j r s _ _ hp => by omega⟩, (Kept.refl _ _).alloc _⟩
    have e : ringsTo (fun _ => 0) qs 0 = List.replicate 64 (.pointer none) := by
      unfold ringsTo
      rw [List.map_congr_left (g := fun _ => Value.pointer none) (fun j _ => by simp)]
      rfl
    rw [e]
    exact Row.new' rfl
  have h00 := h0 _ rfl
  have hra := (h1.kept ((Kept.refl [] w).alloc (.cells (Value.bool true :: (List.replicate 64 (.pointer none) ++ [.int .u64 (qbits qs)])).toArray 93)) (by simp)).range
  clear h1 h0
  go_enter Try.func48, Try.ntmps48
  go_wp2_with (refine wpList_load_mid rfl 91 (.tmp 23) rfl b 1 rfl (ringsOf pp qs) _ hra hu rfl hRl ?_)
  clear hra hRl hu hq c0 c65
  generalize (ringsOf pp qs).toArray = RS at *
  go_loopw [25] (fun i wr => ∃ k : Nat, k ≤ 64 ∧ i = .int .i64 k ∧ QCp w qs (qbits qs) k wr) (fun i _ => 64 - (intOf i).toNat)
  case atStart => exact ⟨0, by omega, rfl, h00⟩
  case round =>
    obtain ⟨k, hk, rfl, hC⟩ := hrel
    by_cases hlt : k < 64
    · have hi := hidx k hlt
      have hC' := QCp.drew hC
      have hl := hcp k wr.drew hlt hC'
      have hn := fun w' a hk => hnext k wr.drew w' a hC' hk
      have hnw := hC.2.size
      clear hidx hcp hnext fin h00 hC hC'
      have hkI : (k : Int) < 64 := by omega
      generalize qptr pp qs k = a at *
      go_wp2
      go_region_with ((refine hl.mono ?_; rintro e w' ⟨a', rfl, hk1, hP, ek, fk⟩))
      all_goals
        have hN := hn _ _ hk1 hP
        have HN := Lib.hid hN
        clear hn hN hP hl hi
        go_wp2
        go_roundw
        case rel => exact ⟨k + 1, by omega, by go_num, HN.out⟩
        case measure => simp [intOf]; omega
    · obtain rfl : k = 64 := by omega
      have hf := fin _ hC
      clear hidx hcp hnext fin h00 hC
      go_wp2
      go_ret
      exact hf
end Go.Proofs.Ytopgfhcgfpceaaa
