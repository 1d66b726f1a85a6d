/- The law ClockPlays: the walk. -/
import Derived.Test.YtopgfhcgfpceaaaPlE
namespace Go.Proofs.Ytopgfhcgfpceaaa
open Go.RowKit

theorem law_num (w : World) (n : Int) : Calls Try.prog 33 #[.int .i64 n] w fun e w' => e = .returned (.int .i64 n) ∧ w = w' := by
  go_enter Try.func33, Try.ntmps33
  go_wp2
  go_ret
  exact ⟨rfl, rfl⟩

set_option maxHeartbeats 3200000 in
set_option maxRecDepth 20000 in
theorem plays_law (W : World) (nm : ByteArray) (mx bs mn : Int) (m : Nat) (sa : Option Addr) (n sc : Nat) (xs : List CAct) (h : Clk.may mx mn m) (hn : n ≤ 9223372036854775807)
    (hr : Reads W W.heap.size sa n 4 (xs.flatMap CAct.enc)) (hx : xs.length = n) (hw : ∀ x ∈ xs, x.wf) :
    Calls Try.prog 5 #[.agg #[.string nm, .int .u32 mx, .int .u32 bs, .int .u32 mn], .int .i64 m, .slice sa n sc] W fun e w' => e = .returned (.bool true) ∧ Kept [] W w' := by
  have hb := fun w => ck_New' nm mx bs mn m w h
  have hrf := fun w => rf_New nm mx bs mn m w h
  rw [Int.toNat_natCast] at hb
  have hbb : ∀ w, (binOp .neq 4 (.bool true) (.bool true)).run Try.prog w = .ok (.bool false) w := fun w => by kernel_rfl
  have hnn : ∀ w p, (binOp .neq 26 (.pointer (some ⟨p, 0, none⟩)) (.pointer none)).run Try.prog w = .ok (.bool true) w := fun w p => by kernel_rfl
  have hen : ∀ w p, (binOp .eql 26 (.pointer (some ⟨p, 0, none⟩)) (.pointer none)).run Try.prog w = .ok (.bool false) w := fun w p => by kernel_rfl
  have hbox : Row (W.alloc (.cells #[.string nm, .int .u32 mx, .int .u32 bs, .int .u32 mn] 24)) W.heap.size 24 [.string nm, .int .u32 mx, .int .u32 bs, .int .u32 mn] := Row.new' rfl
  have hk0 : Kept [] W (W.alloc (.cells #[.string nm, .int .u32 mx, .int .u32 bs, .int .u32 mn] 24)) := (Kept.refl _ _).alloc _
  have hsz : (W.alloc (.cells #[.string nm, .int .u32 mx, .int .u32 bs, .int .u32 mn] 24)).heap.size = W.heap.size + 1 := by simp
  generalize Clk.fresh mx mn m = cf at *
  have hn2 : (0 : Int) ≤ m := by omega
  clear h
  go_enter Try.func5, Try.ntmps5
  go_wp2_with (first | (go_at_call 17; refine (hb _).mono ?_; rintro e w0 ⟨p0, q0, rfl, hp0, hq0, hC0, kk⟩; have hb1 := hbox.kept kk (by simp); have x0 := hb1.cell (i := 0) rfl; have x1 := hb1.cell (i := 1) rfl; have x2 := hb1.cell (i := 2) rfl; have x3 := hb1.cell (i := 3) rfl) | (go_at_call 32; refine (hrf _).mono ?_; rintro e w1 ⟨pd0, qd0, rfl, hpd, hqd, hD0, k1⟩; have hmd := hD0.made) | (go_at_call 33; refine (law_num _ _).mono ?_; rintro e w9 ⟨rfl, rfl⟩))
  rw [hsz] at hp0 hq0
  obtain ⟨qe, hown⟩ := own_new (hk0.trans kk) (by omega) (by omega) hC0 k1 hpd hqd hD0
  clear hb hrf hbox hk0 hsz hb1 x0 x1 x2 x3 kk hC0 hD0 hmd k1 hp0 hq0 hpd hqd
  have HOWN := Lib.hid hown; clear hown
  go_loopw [7, 9, 11] (fun cv dv iv wr => ∃ i pc qc pd qd : Nat, ∃ c, i ≤ n ∧ cv = .pointer (some ⟨pc, 0, none⟩) ∧ dv = .pointer (some ⟨pd, 0, none⟩) ∧ iv = .int .i64 i ∧ Own W wr pc qc pd qd c) (fun _ _ iv _ => n - (intOf iv).toNat)
  case atStart => exact ⟨0, p0, q0, pd0, qe, cf, Nat.zero_le _, rfl, rfl, rfl, HOWN.out⟩
  case round =>
    clear HOWN
    obtain ⟨i, pc, qc, pd, qd, c, hi, rfl, rfl, rfl, hown⟩ := hrel
    by_cases hlt : i < n
    · have hlx : i < xs.length := by omega
      obtain ⟨b, off, rfl, hb1, hcell⟩ := (hr.kept hown.k (by simp)).2 (by omega)
      have hget : xs[i]? = some xs[i] := List.getElem?_eq_getElem hlx
      have hxw := hw _ (List.getElem_mem hlx)
      have s0 := hcell (i * 4) _ (by rw [show i * 4 = i * 4 + 0 by omega, flat_get CAct.enc_length _ i 0 _ hget (by omega)]; rfl)
      have s1 := hcell (i * 4 + 1) _ (by rw [flat_get CAct.enc_length _ i 1 _ hget (by omega)]; rfl)
      have s2 := hcell (i * 4 + 2) _ (by rw [flat_get CAct.enc_length _ i 2 _ hget (by omega)]; rfl)
      have s3 := hcell (i * 4 + 3) _ (by rw [flat_get CAct.enc_length _ i 3 _ hget (by omega)]; rfl)
      rw [← Nat.add_assoc] at s1 s2 s3
      clear hcell hget hr hw
      generalize xs[i] = x at *
      obtain ⟨kd, al, A, B⟩ := x
      dsimp only at s0 s1 s2 s3
      have hpl := fun w pc qc pd qd c hB => law_play w pc qc pd qd c kd al A B hxw hB
      by_cases hk8 : kd = 8
      · subst hk8
        have hcp := ck_Copy' wr pc qc c hown.b.hc
        have hro : ∀ w1 S, Kept S wr w1 → b ∉ S → w1.cell? ⟨b, off + i * 4, none⟩ = some (.int .i64 8) ∧ w1.cell? ⟨b, off + i * 4 + 1, none⟩ = some (.int .i64 al) ∧ w1.cell? ⟨b, off + i * 4 + 2, none⟩ = some (.int .u32 A) ∧ w1.cell? ⟨b, off + i * 4 + 3, none⟩ = some (.int .u32 B) := fun w1 S hk hS => ⟨hk.cell s0 hS, hk.cell s1 hS, hk.cell s2 hS, hk.cell s3 hS⟩
        have hbn : b ∉ [pc, qc] := by have := hown.c0; have := hown.c1; simp; omega
        have hkpc : ∀ w1 w2 w3 w4, Kept [] wr w1 → Kept [pc, qc] w1 w2 → Kept [pc, qc] w2 w3 → Kept [] w3 w4 → Kept [pc, qc] wr w4 := fun w1 w2 w3 w4 h1 h2 h3 h4 => (((h1.mono (by simp)).trans h2).trans h3).trans (h4.mono (by simp))
        have HO := Lib.hid hown
        clear hown
        go_wp2_with (first | (go_at_call 34; refine hcp.mono ?_; rintro e w1 ⟨p', q', rfl, hp', hq', hC1, k1⟩; have hc1 := HO.out.b.hc.kept k1 (by simp) (by simp)) | (go_at_call 21; refine (ck_Tick' _ pc qc c hc1).mono ?_; rintro e w2 ⟨v2, rfl, hc2, ho2, k2⟩) | (go_at_call 35; refine (ck_Reset' _ pc qc _ hc2).mono ?_; rintro e w3 ⟨rfl, hc3, k3⟩; have hoc := own_copy HO.out k1 hp' hq' hC1 k2 k3) | (go_at_call 36; refine (rf_Copy _ pd qd c hoc.1).mono ?_; rintro e w4 ⟨pd', qd', rfl, hpd', hqd', hD4, k4⟩; obtain ⟨qe', ho4⟩ := hoc.2 _ _ _ hpd' hqd' hD4 k4; obtain ⟨t0, t1, t2, t3⟩ := hro _ _ (hkpc _ _ _ _ k1 k2 k3 k4) hbn) | (go_at_call 37; refine (hpl _ _ _ _ _ _ ho4.b).mono ?_; rintro e w5 ⟨rfl, ⟨qd5, c5, hq5, hB5⟩, k5⟩; have ho5 := ho4.then hq5 hB5 k5) | (go_at_call 38; refine (law_told _ _ _ _ _ _ ho5.b).mono ?_; rintro e w6 ⟨rfl, k6⟩))
        go_roundw
        case rel => exact ⟨i + 1, _, _, _, _, _, by omega, rfl, rfl, by go_num, ho5.kept k6⟩
        case measure => simp [intOf]; omega
      · have e8 : (kd == 8) = false := by simpa using hk8
        have ho4 := hown
        clear hown
        go_wp2_with (first | (go_at_call 37; refine (hpl _ _ _ _ _ _ ho4.b).mono ?_; rintro e w5 ⟨rfl, ⟨qd5, c5, hq5, hB5⟩, k5⟩; have ho5 := ho4.then hq5 hB5 k5) | (go_at_call 38; refine (law_told _ _ _ _ _ _ ho5.b).mono ?_; rintro e w6 ⟨rfl, k6⟩))
        go_roundw
        case rel => exact ⟨i + 1, _, _, _, _, _, by omega, rfl, rfl, by go_num, ho5.kept k6⟩
        case measure => simp [intOf]; omega
    · obtain rfl : i = n := by omega
      clear hr hw hx
      go_wp2_with (first | (go_at_call 38; refine (law_told _ _ _ _ _ _ hown.b).mono ?_; rintro e w6 ⟨rfl, k6⟩) | (go_at_call 18; refine (law_alive _).mono ?_; rintro e w7 ⟨rfl, k7⟩))
      go_ret
      exact ⟨rfl, (hown.k.trans k6).trans k7⟩
end Go.Proofs.Ytopgfhcgfpceaaa
