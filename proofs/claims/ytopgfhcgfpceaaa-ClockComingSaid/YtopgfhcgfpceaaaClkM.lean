/- The law ClockComing: the walk. -/
import Derived.Test.YtopgfhcgfpceaaaClkN
namespace Go.Proofs.Ytopgfhcgfpceaaa
open Go.RowKit

set_option maxHeartbeats 3200000 in
set_option maxRecDepth 20000 in
theorem coming_nil (W : World) (nm : ByteArray) (mx bs mn m : Int) (sa : Option Addr) (n sc : Nat) (h : ¬ Clk.may mx mn 4) :
    Calls Try.prog 3 #[.agg #[.string nm, .int .u32 mx, .int .u32 bs, .int .u32 mn], .slice sa n sc, .int .u8 m] W fun e w' => e = .returned (.bool true) ∧ Kept [] W w' := by
  have hb := fun w => ck_New_bad nm mx bs mn 4 w h
  go_enter Try.func3, Try.ntmps3
  go_wp2_with (first | (go_at_call 17; refine (hb _).mono ?_; rintro e w0 ⟨rfl, kk⟩) | (go_at_call 18; refine (law_alive _).mono ?_; rintro e w1 ⟨rfl, k1⟩))
  go_ret
  exact ⟨rfl, (Kept.alloc (Kept.refl _ _) _).trans (kk.trans k1)⟩

/-- Between two calls of the script. -/
def ComScript (W : World) (p q : Nat) (c : Clk) (wr : World) : Prop := ClockAt wr p q c ∧ Kept [] W wr

/-- T ticks behind what Coming has told (L, in lv). -/
def ComTick (W : World) (p q : Nat) (c : Clk) (BL : Nat) (lv : Value) (L : List (Int × Nat)) (T : Nat) (wr : World) : Prop :=
  ClockAt wr p q (Clk.tickN T c) ∧ wr.ownsRow BL 41 2 lv L.length (L.flatMap encE) ∧ Kept [] W wr

theorem ck_Coming' (w : World) (p q : Nat) (c : Clk) (most : Int) (h : ClockAt w p q c) :
    Calls Try.prog 22 #[.pointer (some ⟨p, 0, none⟩), .int .i64 most] w fun e w' => ∃ v, e = .returned v ∧ w'.ownsRow w.heap.size 41 2 v (c.coming most).length ((c.coming most).flatMap encE) ∧ Kept [] w w' :=
  ck_Coming w p q c most h _ fun v _ h1 h2 => ⟨v, rfl, h1, h2⟩

set_option maxHeartbeats 3200000 in
set_option maxRecDepth 20000 in
theorem coming_law (W : World) (nm : ByteArray) (mx bs mn m : Int) (sa : Option Addr) (n sc : Nat) (xs : List CAct) (h : Clk.may mx mn 4) (h0 : 0 ≤ m) (h1 : m ≤ 255) (hn : n ≤ 9223372036854775807)
    (hr : Reads W W.heap.size sa n 4 (xs.flatMap CAct.enc)) (hx : xs.length = n) (hw : ∀ x ∈ xs, x.wf) :
    Calls Try.prog 3 #[.agg #[.string nm, .int .u32 mx, .int .u32 bs, .int .u32 mn], .slice sa n sc, .int .u8 m] W fun e w' => e = .returned (.bool true) ∧ Kept [] W w' := by
  have hb := fun w => ck_New' nm mx bs mn 4 w h
  have hnn : ∀ w p, (binOp .eql 26 (.pointer (some ⟨p, 0, none⟩)) (.pointer none)).run Try.prog w = .ok (.bool false) w := fun w p => by kernel_rfl
  go_enter Try.func3, Try.ntmps3
  go_upto_block 0 with (first | (go_at_call 17; refine (hb _).mono ?_; rintro e w0 ⟨p, q, rfl, hp, hq, c0, kk⟩))
  have hp' : W.heap.size ≤ p := by simp at hp; omega
  have hq' : W.heap.size ≤ q := by simp at hq; omega
  have kk' : Kept [] W w0 := (Kept.alloc (Kept.refl _ _) _).trans kk
  go_cut [9] (fun i wr => ComScript W p q (xs.foldl Clk.runC (Clk.fresh mx mn 4)) wr)
  case first =>
    go_wp2_with fail
    go_loopw [9] (fun i wr => ∃ k : Nat, k ≤ n ∧ i = .int .i64 k ∧ ComScript W p q ((xs.take k).foldl Clk.runC (Clk.fresh mx mn 4)) wr) (fun i _ => n - (intOf i).toNat)
    case atStart => exact ⟨0, Nat.zero_le _, rfl, c0, kk'⟩
    case round =>
      obtain ⟨k, hk, rfl, hC, hK⟩ := hrel
      by_cases hlt : k < n
      · have hlx : k < xs.length := by omega
        obtain ⟨b, off, rfl, hb1, hcell⟩ := (hr.kept hK (by simp)).2 (by omega)
        have hbw : b < wr.heap.size := Nat.lt_of_lt_of_le hb1 hK.size
        have hget : xs[k]? = some xs[k] := List.getElem?_eq_getElem hlx
        have hxw := hw _ (List.getElem_mem hlx)
        have s0 := hcell (k * 4) _ (by rw [show k * 4 = k * 4 + 0 by omega, flat_get CAct.enc_length _ k 0 _ hget (by omega)]; rfl)
        have s1 := hcell (k * 4 + 1) _ (by rw [flat_get CAct.enc_length _ k 1 _ hget (by omega)]; rfl)
        have s2 := hcell (k * 4 + 2) _ (by rw [flat_get CAct.enc_length _ k 2 _ hget (by omega)]; rfl)
        have s3 := hcell (k * 4 + 3) _ (by rw [flat_get CAct.enc_length _ k 3 _ hget (by omega)]; rfl)
        rw [← Nat.add_assoc] at s1 s2 s3
        have hfold : (xs.take (k + 1)).foldl Clk.runC (Clk.fresh mx mn 4) = ((xs.take k).foldl Clk.runC (Clk.fresh mx mn 4)).runC xs[k] := by
          rw [List.take_succ_eq_append_getElem hlx, List.foldl_append]; rfl
        have HF := Lib.hid hfold
        clear hfold hget hcell
        have x0 := hxw.a0
        have x1 := hxw.a1
        have x2 := hxw.b0
        have x3 := hxw.b1
        generalize xs[k] = x at *
        generalize (xs.take k).foldl Clk.runC (Clk.fresh mx mn 4) = c1 at *
        clear hxw
        obtain ⟨kd, al, A, B⟩ := x
        dsimp only at s0 s1 s2 s3 x0 x1 x2 x3
        have hpw := hC.row.lt
        have hqw := hC.arow.lt
        have m50a := emod_bd A 50 (by omega)
        have m50b := emod_bd B 50 (by omega)
        obtain ⟨ma0, ma1⟩ := m50a
        obtain ⟨mb0, mb1⟩ := m50b
        have hCo := fun o => hC.kept ((Kept.refl [] wr).alloc o) (by simp) (by simp)
        have hKo := fun o => hK.alloc o
        have fin : ∀ w2, ClockAt w2 p q (c1.runC ⟨kd, al, A, B⟩) → Kept [] W w2 → ComScript W p q ((xs.take (k + 1)).foldl Clk.runC (Clk.fresh mx mn 4)) w2 := fun w2 h3 h4 => ⟨by rw [HF.out]; exact h3, h4⟩
        clear hC hK
        by_cases k1 : kd = 1
        · subst k1
          have hrel := fun o => ck_Rel _ p q c1 al (A % 50) (B % 50) (hCo o) (by omega) (by omega)
          rw [show c1.runC ⟨1, al, A, B⟩ = (c1.rel al (A % 50) (B % 50)).2 from rfl] at fin
          go_wp2_with (go_at_call 19; refine (hrel _).mono ?_; rintro e w2 ⟨rfl, h3, h4⟩)
          go_roundw
          case rel => exact ⟨k + 1, by omega, by go_num, fin _ h3 (kept_pq (hKo _) (kq h4) hp' hq')⟩
          case measure => simp [intOf]; omega
        · have e1 : (kd == 1) = false := by simpa using k1
          by_cases k2 : kd = 2
          · subst k2
            have hrel := fun o => ck_Abs _ p q c1 al A (B % 50) (hCo o) (by omega) (by omega)
            rw [show c1.runC ⟨2, al, A, B⟩ = (c1.abs al A (B % 50)).2 from rfl] at fin
            clear k1 e1
            go_wp2_with (go_at_call 20; refine (hrel _).mono ?_; rintro e w2 ⟨rfl, h3, h4⟩)
            go_roundw
            case rel => exact ⟨k + 1, by omega, by go_num, fin _ h3 (kept_pq (hKo _) (kq h4) hp' hq')⟩
            case measure => simp [intOf]; omega
          · have e2 : (kd == 2) = false := by simpa using k2
            by_cases k5 : kd = 5
            · subst k5
              have hrel := fun o => ck_Tick' _ p q c1 (hCo o)
              rw [show c1.runC ⟨5, al, A, B⟩ = c1.tick from rfl] at fin
              clear k1 k2 e1 e2
              go_wp2_with (go_at_call 21; refine (hrel _).mono ?_; rintro e w2 ⟨v, rfl, h3, h4, h5⟩)
              go_roundw
              case rel => exact ⟨k + 1, by omega, by go_num, fin _ h3 (kept_pq (hKo _) h5 hp' hq')⟩
              case measure => simp [intOf]; omega
            · have e5 : (kd == 5) = false := by simpa using k5
              have e : c1.runC ⟨kd, al, A, B⟩ = c1 := by simp [Clk.runC, k1, k2, k5]
              rw [e] at fin
              clear k1 k2 k5 e
              go_wp2_with fail
              go_roundw
              case rel => exact ⟨k + 1, by omega, by go_num, fin _ (hCo _) (hKo _)⟩
              case measure => simp [intOf]; omega
      · obtain rfl : k = n := by omega
        have hend : ComScript W p q (xs.foldl Clk.runC (Clk.fresh mx mn 4)) wr := ⟨by rw [List.take_of_length_le (by omega)] at hC; exact hC, hK⟩
        clear hC hK
        go_wp2_with fail
        go_meet
        exact hend
  case rest =>
    obtain ⟨hC, hK⟩ := hcut
    have hlen : (xs.foldl Clk.runC (Clk.fresh mx mn 4)).al.length = 4 := by rw [runC_fold_len]; simp [Clk.fresh]
    generalize xs.foldl Clk.runC (Clk.fresh mx mn 4) = c1 at *
    clear c0 kk kk' hr hw hx hb
    have hcom := ck_Coming' wc p q c1 m hC
    have hpw := hC.row.lt
    have hqw := hC.arow.lt
    have hcw := hC.wf
    obtain ⟨L, hL⟩ : ∃ L, c1.coming m = L := ⟨_, rfl⟩
    rw [hL] at hcom
    have hmm : (min m 65536).toNat = m.toNat := by congr 1; omega
    have hLm := coming_len c1 m
    rw [hL, hmm] at hLm
    have HL := Lib.hid hL; clear hL
    have HM := Lib.hid hmm; clear hmm
    go_upto_block 3 with (first | (go_at_call 22; refine hcom.mono ?_; rintro e w1 ⟨lv, rfl, hO, hk1⟩))
    have hC1 := hC.kept hk1 (by simp) (by simp)
    have hK1 := hK.trans hk1
    obtain ⟨la, lcap, rfl, hlc1, hlc2⟩ := owns_slice hO
    have hL9 : lcap ≤ 9223372036854775807 := by unfold maxLen at hlc2; exact hlc2
    have hL8 : L.length ≤ 255 := by omega
    go_cut [12, 13] (fun nv kv wr => ∃ T : Nat, nv = .int .u64 T ∧ kv = .int .i64 (min L.length (evs T c1.al 0).length : Nat) ∧ (T = 3000 ∨ L.length ≤ (evs T c1.al 0).length) ∧ T ≤ 3000 ∧ ComTick W p q c1 wc.heap.size (.slice la L.length lcap) L T wr)
    case first =>
      go_wp2_with fail
      go_loopw [12, 13, 14] (fun nv kv tv wr => ∃ T : Nat, T ≤ 3000 ∧ nv = .int .u64 T ∧ kv = .int .i64 (min L.length (evs T c1.al 0).length : Nat) ∧ tv = .int .u64 (T + 1) ∧ ComTick W p q c1 wc.heap.size (.slice la L.length lcap) L T wr) (fun nv _ _ _ => 3000 - (intOf nv).toNat)
      case atStart => exact ⟨0, by omega, rfl, by simp [evs], rfl, hC1, hO, hK1⟩
      case round =>
        obtain ⟨T, hT, rfl, rfl, rfl, hCT, hOT, hKT⟩ := hrel
        have hat := fun j i h => coming_at c1 hcw m T j i h
        rw [HL.out] at hat
        have hEs : (evs (T + 1) c1.al 0).length = (evs T c1.al 0).length + (fired (ticks T c1.al) 1).length := by rw [evs_succ, List.length_append, List.length_map]
        generalize hE : (evs T c1.al 0).length = E at *
        have hTk := ck_Tick' wr p q (Clk.tickN T c1) hCT
        rw [Clk.tickN_al] at hTk
        generalize hF : fired (ticks T c1.al) 1 = F at *
        rw [show (Clk.tickN T c1).tick = Clk.tickN (T + 1) c1 from rfl] at hTk
        have ET := Lib.hid hE
        have EE := Lib.hid hEs
        clear hE hF hEs hC hK hC1 hK1 hO hcom
        by_cases hd : T < 3000 ∧ E < L.length
        · obtain ⟨hd1, hd2⟩ := hd
          have hm1 : min L.length E = E := by omega
          rw [hm1]
          obtain ⟨g, rfl, hg, hgc⟩ : ∃ g, la = some ⟨g, 0, none⟩ ∧ g < wr.heap.size ∧ wc.heap.size ≤ g := by
            obtain ⟨g, h1, h2, _⟩ := exp_cells hOT E _ (List.getElem?_eq_getElem hd2) rfl
            subst h1
            exact ⟨g, rfl, h2, (hOT.lt g rfl).1⟩
          have hgpq : ∀ k, (Value.slice (some ⟨g, 0, none⟩) L.length lcap).ownBlock = some k → k ∉ [p, q] := by
            intro k hk
            have hk : some g = some k := hk
            injection hk with hk
            subst hk
            simp
            omega
          go_wp2_with (first | (go_at_call 21; refine hTk.mono ?_; rintro e w2 ⟨fv, rfl, hC2, hO2, hk2⟩; obtain ⟨fa, fcap, rfl, hf1, hf2⟩ := owns_slice hO2))
          have hOT2 := owns_kept hOT hk2 hgpq
          have hKT2 := kept_pq hKT hk2 hp' hq'
          have hf3 : fcap ≤ 9223372036854775807 := by unfold maxLen at hf2; exact hf2
          go_loopw [13, 16] (fun kv iv wx => ∃ j : Nat, j ≤ F.length ∧ iv = .int .i64 j ∧ kv = .int .i64 (min L.length (E + j) : Nat) ∧ ComTick W p q c1 wc.heap.size (.slice (some ⟨g, 0, none⟩) L.length lcap) L (T + 1) wx ∧ wx.ownsRow wr.heap.size 3 1 (.slice fa F.length fcap) F.length (F.map fun i => .int .i64 (i : Nat))) (fun _ iv _ => F.length - (intOf iv).toNat)
          case atStart => exact ⟨0, by omega, rfl, by rw [Nat.add_zero, hm1], ⟨hC2, hOT2, hKT2⟩, hO2⟩
          case round =>
            clear hC2 hO2 hk2 hOT2 hKT2 hTk hCT hOT hKT
            obtain ⟨j, hj, rfl, rfl, ⟨hC2, hO2, hK2⟩, hF2⟩ := hrel
            by_cases hd3 : j < F.length ∧ E + j < L.length
            · obtain ⟨hd3, hd4⟩ := hd3
              have hm2 : min L.length (E + j) = E + j := by omega
              rw [hm2]
              have hFj := List.getElem?_eq_getElem hd3
              obtain ⟨g2, rfl, hg2, s2⟩ := int_cells hF2 j _ hFj rfl
              obtain ⟨g1, e1, hg1, s0, s1⟩ := exp_cells hO2 (E + j) _ (hat j _ hFj hd4) rfl
              injection e1 with e1
              injection e1 with e1
              subst e1
              dsimp only at s0 s1
              generalize F[j] = x at *
              have hneq := fun w a b => run_neq_exp w a b
              have fin : ∀ nq, ComTick W p q c1 wc.heap.size (.slice (some ⟨g, 0, none⟩) L.length lcap) L (T + 1) (wr.drewN nq) := fun nq => ⟨hC2, hO2, hK2.trans (Kept.mk rfl rfl rfl (Nat.le_refl _) (fun _ _ _ => rfl))⟩
              have mE : min L.length (E + (j + 1)) = E + j + 1 := by omega
              clear hFj hC2 hO2 hK2 hat
              go_wp2_with (first | go_quiet (fail))
              go_roundw
              case rel => exact ⟨j + 1, by omega, by go_num, by rw [mE]; go_num, fin _, hF2⟩
              case measure => simp [intOf]; omega
            · have fin : ComTick W p q c1 wc.heap.size (.slice (some ⟨g, 0, none⟩) L.length lcap) L (T + 1) wr := ⟨hC2, hO2, hK2⟩
              have hmm : min L.length (evs (T + 1) c1.al 0).length = min L.length (E + j) := by rw [EE.out]; omega
              have HMM := Lib.hid hmm
              clear hmm hat hC2 hO2 hK2
              by_cases hd4 : j < F.length
              · have hm2 : min L.length (E + j) = L.length := by omega
                rw [hm2]
                go_wp2_with fail
                go_roundw
                case rel => exact ⟨T + 1, by omega, by go_num, by rw [HMM.out, hm2], by go_num, fin⟩
                case measure => simp [intOf]; omega
              · obtain rfl : j = F.length := by omega
                generalize min L.length (E + F.length) = kk at *
                go_wp2_with fail
                go_roundw
                case rel => exact ⟨T + 1, by omega, by go_num, by rw [HMM.out], by go_num, fin⟩
                case measure => simp [intOf]; omega
        · have fin : ComTick W p q c1 wc.heap.size (.slice la L.length lcap) L T wr := ⟨hCT, hOT, hKT⟩
          clear hat hTk hCT hOT hKT
          by_cases hd4 : T = 3000
          · subst hd4
            generalize hkk : min L.length E = kk
            go_wp2_with fail
            go_meet
            exact ⟨3000, rfl, by rw [ET.out, hkk], .inl rfl, by omega, fin⟩
          · have hm2 : min L.length E = L.length := by omega
            rw [hm2]
            go_wp2_with fail
            go_meet
            exact ⟨T, rfl, by rw [ET.out, hm2], .inr (by rw [ET.out]; omega), by omega, fin⟩
    case rest =>
      clear hC hK hC1 hK1 hO hcom
      obtain ⟨T, rfl, rfl, hTL, hT, hCT, hOT, hKT⟩ := hcut
      have hlate := fun i x => coming_late c1 hcw m T i x
      have hdone := coming_done c1 hcw m T
      rw [HL.out] at hlate hdone
      rw [HM.out] at hdone
      generalize hE : (evs T c1.al 0).length = E at *
      have hLm' : (L.length : Int) ≤ m := by omega
      have hln : (Clk.tickN T c1).al.length = 4 := by rw [Clk.tickN_al, ticks_len, hlen]
      by_cases hd : E < L.length
      · have hm1 : min L.length E = E := by omega
        rw [hm1]
        obtain ⟨g, rfl, hg, s0, s1⟩ := exp_cells hOT E _ (List.getElem?_eq_getElem hd) rfl
        have hla := hlate E _ (List.getElem?_eq_getElem hd) (Nat.le_refl _)
        generalize L[E] = x at *
        have hne : ((E : Int) == (L.length : Int)) = false := by simp; omega
        clear hlate hdone hOT hCT hTL
        go_wp2_with (first | (go_at_call 18; refine (law_alive _).mono ?_; rintro e w1 ⟨rfl, k1⟩))
        go_ret
        exact ⟨rfl, hKT.trans k1⟩
      · have hm1 : min L.length E = L.length := by omega
        rw [hm1]
        have heq : ((L.length : Int) == (L.length : Int)) = true := by simp
        clear hlate hOT hTL
        by_cases hd2 : (L.length : Int) < m
        · have hs := hdone (by omega) (by omega)
          rw [← Clk.tickN_al] at hs
          have hof := of_unset _ hln hs
          generalize Clk.tickN T c1 = c2 at *
          clear hdone hs
          go_wp2_with fail
          go_loopw [17] (fun iv wr => ∃ k : Nat, k ≤ 4 ∧ iv = .int .i64 k ∧ ClockAt wr p q c2 ∧ Kept [] W wr) (fun iv _ => 4 - (intOf iv).toNat)
          case atStart => exact ⟨0, by omega, rfl, hCT, hKT⟩
          case round =>
            clear hCT hKT
            obtain ⟨k, hk, rfl, hC, hK⟩ := hrel
            by_cases hlt : k < 4
            · have hl := ck_Left wr p q c2 k hC
              rw [hof k hlt] at hl
              dsimp only [Alm.zero] at hl
              go_wp2_with (first | (go_at_call 23; refine hl.mono ?_; rintro e w2 ⟨rfl, h3⟩))
              go_roundw
              case rel => exact ⟨k + 1, by omega, by go_num, hC.kept h3 (by simp) (by simp), hK.trans h3⟩
              case measure => simp [intOf]; omega
            · obtain rfl : k = 4 := by omega
              clear hC
              go_wp2_with (first | (go_at_call 18; refine (law_alive _).mono ?_; rintro e w1 ⟨rfl, k1⟩))
              go_ret
              exact ⟨rfl, hK.trans k1⟩
        · clear hdone hCT
          go_wp2_with (first | (go_at_call 18; refine (law_alive _).mono ?_; rintro e w1 ⟨rfl, k1⟩))
          go_ret
          exact ⟨rfl, hKT.trans k1⟩
end Go.Proofs.Ytopgfhcgfpceaaa
