/- The walk of package ready: Clear. -/
import Derived.Test.YtopgfhcgfpceaaaQmE
namespace Go.Proofs.Ytopgfhcgfpceaaa
open Go.RowKit

variable {m : Bool}

theorem q_Clear_nil (w : World) : Calls Try.prog 46 #[.pointer none] w fun e w' => e = .returned (.int .i64 0) ∧ w = w' := by
  have hq : ∀ w, (binOp .neq 47 (.pointer none) (.pointer none)).run Try.prog w = .ok (.bool false) w := fun w => by kernel_rfl
  go_enter Try.func46, Try.ntmps46
  go_wp2
  go_ret
  exact ⟨rfl, rfl⟩

theorem ring_Clear (w : World) (p q : Nat) (r : QR) (h : RingAt w p q r) : Calls Try.prog 129 #[.pointer (some ⟨p, 0, none⟩)] w fun e w' => e = .returned (.int .i64 r.l.length) ∧ RingAt w' p q { r with l := [] } ∧ Kept [p, q] w w' := by
  obtain ⟨g, h1, h2, h3, h4, h5⟩ := h
  have hl : g.items.length = g.n := g.items_length
  rw [← h3, hl]
  refine (rg_Clear w p q g h1).mono ?_
  rintro e w' ⟨rfl, h6, h7⟩
  exact ⟨rfl, ⟨g.none_, h6, h2, Rg.none_items g, h4, Nat.lt_of_lt_of_le h5 h7.size⟩, h7⟩

/-- Between two rounds of Clear's loop. -/
def QCl (m : Bool) (w : World) (F : List Nat) (b : Nat) (pp qq : Nat → Nat) (qs : List QR) (bits k : Nat) (wr : World) : Prop := QAtB m wr b pp qq (qclearTo qs k) bits ∧ Kept F w wr

theorem qupd_same (qq : Nat → Nat) (i : Nat) : (fun j => if j = i then qq i else qq j) = qq := by
  funext j
  split
  · rename_i e; rw [e]
  · rfl

theorem ring_Clear_any {w wr : World} {F : List Nat} {b : Nat} {pp qq : Nat → Nat} {qs : List QR} {bits k : Nat} (hw : QWf qs) (h : QCl m w F b pp qq qs bits k wr) (hF : ∀ x ∈ qfoot b pp qq qs.length, x ∈ F) :
    Calls Try.prog 129 #[.pointer (qptr pp qs k)] wr fun e w' => e = .returned (.int .i64 (qring qs k).length) ∧ QCl m w F b pp qq qs bits (k + 1) w' := by
  obtain ⟨hQ, hK⟩ := h
  unfold qptr qring
  cases hf : qfind qs k with
  | none =>
    refine (rg_Clear_nil wr).mono ?_
    rintro e w' ⟨rfl, rfl⟩
    refine ⟨rfl, ?_, hK⟩
    rw [qclearTo_none hf]
    exact hQ
  | some i =>
    obtain ⟨r, h1, hp⟩ := qfind_some hf
    have hl := (List.getElem?_eq_some_iff.1 h1).1
    obtain ⟨h2, h3⟩ := qclearTo_some hw h1 (k := k) (by omega)
    simp only [h1, Option.map_some]
    refine (ring_Clear wr _ _ r (hQ.ring i r h2)).mono ?_
    rintro e w' ⟨rfl, h6, h7⟩
    have hwr := hw.row h1
    refine ⟨rfl, ?_, hK.trans (h7.mono fun x hx => hF x (mem_qfoot.2 (.inr ⟨i, hl, by simpa using hx⟩)))⟩
    have := hQ.upd h2 (r' := { r with l := [] }) (q' := qq i) rfl ⟨hwr.p, hwr.c1, hwr.c2, by simp, hwr.h2⟩ h6 (.inl rfl) h7
    rw [qupd_same] at this
    rw [h3]
    exact this

set_option maxRecDepth 100000 in
theorem q_ClearB (w : World) (F : List Nat) (b : Nat) (pp qq : Nat → Nat) (qs : List QR) (bits : Nat) (h1 : QAtB m w b pp qq qs bits) (h2 : ∀ x ∈ qfoot b pp qq qs.length, x ∈ F) : Calls Try.prog 46 #[.pointer (some ⟨b, 0, none⟩)] w fun e w' => e = .returned (.int .i64 (qlen qs)) ∧ QAtB m w' b pp qq (qclear qs) 0 ∧ Kept F w w' := by
  have hq : ∀ w b, (binOp .neq 47 (.pointer (some ⟨b, 0, none⟩)) (.pointer none)).run Try.prog w = .ok (.bool true) w := fun w b => by kernel_rfl
  have hwf := h1.wf
  have hra := h1.range
  have hRl : (Try.prog.info? 91).map (·.size) = some (ringsOf pp qs).length := by rw [ringsOf_len]; kernel_rfl
  have hu := Try.underlying91
  have hidx := fun k hk => q_index pp qs k hk
  have hcl := fun k wr (hh : QCl m w F b pp qq qs bits k wr) => ring_Clear_any hwf hh h2
  have hsum := qlen_sum hwf
  have hle := fun k (hk : k ≤ 64) => sumTo_le (f := fun p => (qring qs p).length) (b := 65536) (n := k) fun i _ => qring_len hwf i
  have hl1 := fun k : Nat => qring_len hwf k
  have h0 : QCl m w F b pp qq qs bits 0 w := ⟨by rw [qclearTo_zero]; exact h1, Kept.refl _ _⟩
  have hbF := h2 b (mem_qfoot.2 (.inl rfl))
  have fin : ∀ wr, QCl m w F b pp qq qs bits 64 wr → (wr.cell? ⟨b, 65, none⟩ = some (.int .u64 bits) ∧ wr.frozen? ⟨b, 65, none⟩ = false) ∧ QAtB m (wr.setCell ⟨b, 65, none⟩ (.int .u64 0)) b pp qq (qclear qs) 0 ∧ Kept F w (wr.setCell ⟨b, 65, none⟩ (.int .u64 0)) := by
    intro wr ⟨hQ, hK⟩
    rw [qclearTo_all hwf] at hQ
    exact ⟨⟨hQ.c65, hQ.row.free 65⟩, hQ.setBits 0, hK.setCell (.inl hbF) _⟩
  rw [← hsum]
  clear hsum h1 h2 hwf
  go_enter Try.func46, Try.ntmps46
  go_wp2_with (refine wpList_load_mid rfl 91 (.tmp 10) rfl b 1 rfl (ringsOf pp qs) _ hra hu rfl hRl ?_)
  clear hra hRl hu hq
  generalize (ringsOf pp qs).toArray = RS at *
  go_loopw [3, 12] (fun n i wr => ∃ k : Nat, k ≤ 64 ∧ i = .int .i64 k ∧ n = .int .i64 (sumTo (fun p => (qring qs p).length) k) ∧ QCl m w F b pp qq qs bits k wr) (fun _ i _ => 64 - (intOf i).toNat)
  case atStart => exact ⟨0, by omega, rfl, rfl, h0⟩
  case round =>
    obtain ⟨k, hk, rfl, rfl, hC⟩ := hrel
    by_cases hlt : k < 64
    · have hi := hidx k hlt
      have hl := hcl k _ hC
      have h1 := hle k hk
      have h2 := hl1 k
      have hs : sumTo (fun p => (qring qs p).length) (k + 1) = sumTo (fun p => (qring qs p).length) k + (qring qs k).length := rfl
      have HS := Lib.hid hs
      clear hidx hcl hle hl1 hs fin h0
      generalize (qring qs k).length = c at *
      generalize hsm : sumTo (fun p => (qring qs p).length) k = s at *
      have HM := Lib.hid hsm
      clear hsm
      have hkI : (k : Int) < 64 := by omega
      generalize qptr pp qs k = a at *
      go_wp2_with (go_at_call 129; refine hl.mono ?_; rintro e w' ⟨rfl, hC2⟩)
      go_roundw
      case rel => exact ⟨k + 1, by omega, by go_num, by rw [HS.out]; go_num, hC2⟩
      case measure => simp [intOf]; omega
    · obtain rfl : k = 64 := by omega
      have hf := fin _ hC
      have e65 := hf.1.1
      have f65 := hf.1.2
      have HF := Lib.hid hf.2
      clear hidx hcl hle hl1 fin h0 hf hC
      generalize hsm : sumTo (fun p => (qring qs p).length) 64 = s at *
      have HM := Lib.hid hsm
      clear hsm
      go_wp2
      go_ret
      exact ⟨by rw [HM.out]; rfl, HF.out⟩

/-- Clear, over every queue. -/
theorem q_Clear (w : World) (F : List Nat) (b : Nat) (qs : List QR) (h : QS w F b qs) : Calls Try.prog 46 #[.pointer (some ⟨b, 0, none⟩)] w fun e w' => e = .returned (.int .i64 (qlen qs)) ∧ QStep w F b (qclear qs) w' := by
  obtain ⟨⟨pp, qq, h1, h2⟩, h3⟩ := h
  refine (q_ClearB w F b pp qq qs _ h1 h2).mono ?_
  rintro e w' ⟨rfl, h4, h5⟩
  refine ⟨rfl, h5, F, ⟨⟨pp, qq, by rw [qclear_bits]; exact h4, by unfold qclear; rw [List.length_map]; exact h2⟩, fun x hx => ?_⟩, fun x hx => .inl hx⟩
  have := h3 x hx
  have := h5.size
  omega
end Go.Proofs.Ytopgfhcgfpceaaa
