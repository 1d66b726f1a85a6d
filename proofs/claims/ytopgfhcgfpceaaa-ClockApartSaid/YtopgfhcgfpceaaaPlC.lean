/- The laws of clock: 'play' answers true; Tick, Reset and what is no call. -/
import Derived.Test.YtopgfhcgfpceaaaPlB
import Derived.Lib.SmallJoins
namespace Go.Proofs.Ytopgfhcgfpceaaa
open Go.RowKit

theorem ck_Reset' (w : World) (p q : Nat) (c : Clk) (h : ClockAt w p q c) :
    Calls Try.prog 35 #[.pointer (some ⟨p, 0, none⟩)] w fun e w' => e = .returned (.tuple #[]) ∧ ClockAt w' p q { c with value := 0, al := List.replicate c.al.length Alm.zero } ∧ Kept [p, q] w w' :=
  ck_Reset w p q c h _ fun _ h1 h2 => ⟨rfl, h1, h2⟩

set_option maxHeartbeats 3200000 in
set_option maxRecDepth 20000 in
theorem law_play7 (w : World) (pc qc pd qd : Nat) (c : Clk) (al A B : Int) (h : Both w pc qc pd qd c) :
    Calls Try.prog 37 #[.pointer (some ⟨pc, 0, none⟩), .pointer (some ⟨pd, 0, none⟩), .agg #[.int .i64 7, .int .i64 al, .int .u32 A, .int .u32 B]] w fun e w' => e = .returned (.bool true) ∧ (∃ qd', (qd' = qd ∨ qd' = pd ∨ w.heap.size ≤ qd') ∧ Both w' pc qc pd qd' { c with value := 0, al := List.replicate c.al.length Alm.zero }) ∧ Kept [pc, qc, pd, qd] w w' := by
  have hb : Both (w.alloc (.cells #[.int .i64 7, .int .i64 al, .int .u32 A, .int .u32 B] 32)) pc qc pd qd c := h.kept ((Kept.refl [] w).alloc _) (by simp) (by simp) (by simp) (by simp)
  have hk0 : Kept [pc, qc, pd, qd] w (w.alloc (.cells #[.int .i64 7, .int .i64 al, .int .u32 A, .int .u32 B] 32)) := ((Kept.refl _ w).alloc _)
  have hrel := ck_Reset' _ pc qc c hb.hc
  have b1 := h.hc.row.lt
  have b2 := h.hc.arow.lt
  have b3 := h.hd.lt
  have hd1 : ∀ w1, Kept [pc, qc] (w.alloc (.cells #[.int .i64 7, .int .i64 al, .int .u32 A, .int .u32 B] 32)) w1 → RefAt w1 pd qd c := fun w1 h2 => (hb.left h2).1
  have fin : ∀ w1 w2, ClockAt w1 pc qc { c with value := 0, al := List.replicate c.al.length Alm.zero } → Kept [pc, qc] (w.alloc (.cells #[.int .i64 7, .int .i64 al, .int .u32 A, .int .u32 B] 32)) w1 → RefAt w2 pd w1.heap.size { c with value := 0, al := List.replicate c.al.length Alm.zero } → Kept [pd] w1 w2 →
      (∃ qd', (qd' = qd ∨ qd' = pd ∨ w.heap.size ≤ qd') ∧ Both w2 pc qc pd qd' { c with value := 0, al := List.replicate c.al.length Alm.zero }) ∧ Kept [pc, qc, pd, qd] w w2 := by
    intro w1 w2 h1 h2 h3 h4
    have h6 := (hb.left h2).2
    have hs := (hk0.trans h6).size
    obtain ⟨q', hq1, hq2, hq3⟩ := h3.near
    refine ⟨⟨q', by omega, ⟨h1.kept h4 (by simp [Ne.symm h.n1]) (by simp [Ne.symm h.n2]), hq3, h.n1, h.n2, ?_, ?_, hq2⟩⟩, (hk0.trans h6).trans (h4.mono (by simp))⟩
    · have := h.n1
      omega
    · have := h.n2
      omega
  clear h hb hk0
  go_enter Try.func37, Try.ntmps37
  go_wp2_with (first | (go_at_call 35; refine hrel.mono ?_; rintro e w1 ⟨rfl, h3, h4⟩; have hd2 := hd1 _ h4) | (go_at_call 119; refine (rf_Reset _ pd qd c hd2).mono ?_; rintro e w2 ⟨rfl, h5, h6⟩))
  go_ret
  exact ⟨rfl, fin _ _ h3 h4 h5 h6⟩

set_option maxHeartbeats 3200000 in
set_option maxRecDepth 20000 in
theorem law_play0 (w : World) (pc qc pd qd : Nat) (c : Clk) (kd al A B : Int) (h : Both w pc qc pd qd c) (h1 : kd ≠ 1) (h2 : kd ≠ 2) (h3 : kd ≠ 3) (h4 : kd ≠ 4) (h5 : kd ≠ 5) (h6 : kd ≠ 6) (h7 : kd ≠ 7) :
    Calls Try.prog 37 #[.pointer (some ⟨pc, 0, none⟩), .pointer (some ⟨pd, 0, none⟩), .agg #[.int .i64 kd, .int .i64 al, .int .u32 A, .int .u32 B]] w fun e w' => e = .returned (.bool true) ∧ Both w' pc qc pd qd c ∧ Kept [pc, qc, pd, qd] w w' := by
  have e1 : (kd == 1) = false := by simpa using h1
  have e2 : (kd == 2) = false := by simpa using h2
  have e3 : (kd == 3) = false := by simpa using h3
  have e4 : (kd == 4) = false := by simpa using h4
  have e5 : (kd == 5) = false := by simpa using h5
  have e6 : (kd == 6) = false := by simpa using h6
  have e7 : (kd == 7) = false := by simpa using h7
  have hb := fun o => h.kept ((Kept.refl [] w).alloc o) (by simp) (by simp) (by simp) (by simp)
  clear h h1 h2 h3 h4 h5 h6 h7
  go_enter Try.func37, Try.ntmps37
  go_wp2
  go_ret
  exact ⟨rfl, hb _, (Kept.refl _ w).alloc _⟩

/-- Between two rounds of the loops that overwrite what Tick gave, and append to it. -/
def Play5 (w : World) (pc qc pd qd B : Nat) (c : Clk) (m : Nat) (v : Value) (wr : World) : Prop :=
  ∃ ys, wr.ownsRow B 3 1 v m ys ∧ Both wr pc qc pd qd c ∧ Kept [pc, qc, pd, qd] w wr

theorem Play5.shape {w wr : World} {pc qc pd qd B : Nat} {c : Clk} {m : Nat} {v : Value} (h : Play5 w pc qc pd qd B c m v wr) : ∃ a cap, v = .slice a m cap ∧ m ≤ cap ∧ cap ≤ 9223372036854775807 := by
  obtain ⟨ys, h1, _⟩ := h
  obtain ⟨a, cap, e, h2, h3⟩ := owns_slice h1
  exact ⟨a, cap, e, h2, by unfold maxLen at h3; exact h3⟩

/-- A cell of what the walk owns is overwritten. -/
theorem Play5.store {w wr : World} {pc qc pd qd B : Nat} {c : Clk} {m cap : Nat} {a : Option Addr} (h : Play5 w pc qc pd qd B c m (.slice a m cap) wr) (h1 : pc < B) (h2 : qc < B) (h3 : pd < B) (h4 : qd < B) (hB : w.heap.size ≤ B) (j : Nat) (hj : j < m) :
    ∃ g, a = some ⟨g, 0, none⟩ ∧ (∃ u, wr.cell? ⟨g, j, none⟩ = some u) ∧ wr.frozen? ⟨g, j, none⟩ = false ∧ g < wr.heap.size ∧ ∀ u, Play5 w pc qc pd qd B c m (.slice a m cap) (wr.setCell ⟨g, j, none⟩ u) := by
  obtain ⟨ys, hO, hBo, hK⟩ := h
  obtain ⟨g, cap', e⟩ := Go.Joins.ownsRow_form hO (by omega)
  injection e with e1 e2 e3
  subst e1 e3
  have hl := hO.lt g rfl
  have hly := hO.1
  refine ⟨g, rfl, ⟨_, (hO.cellAt j (by omega)).trans (List.getElem?_eq_getElem (by omega))⟩, hO.frozenAt j, hl.2, fun u => ⟨_, (hO.stored j u).1, ?_, hK.setCell (.inr (by show w.heap.size ≤ g; omega)) u⟩⟩
  exact hBo.kept ((Kept.refl [g] wr).setCell (by simp) u) (by simp; omega) (by simp; omega) (by simp; omega) (by simp; omega)

set_option maxHeartbeats 1600000 in
set_option maxRecDepth 20000 in
theorem law_play5 (w : World) (pc qc pd qd : Nat) (c : Clk) (al A B : Int) (h : Both w pc qc pd qd c) :
    Calls Try.prog 37 #[.pointer (some ⟨pc, 0, none⟩), .pointer (some ⟨pd, 0, none⟩), .agg #[.int .i64 5, .int .i64 al, .int .u32 A, .int .u32 B]] w fun e w' => e = .returned (.bool true) ∧ Both w' pc qc pd qd c.tick ∧ Kept [pc, qc, pd, qd] w w' := by
  obtain ⟨i0, hi, hz0, hz1, hz2⟩ := info_parts Try.info3
  have hb : Both (w.alloc (.cells #[.int .i64 5, .int .i64 al, .int .u32 A, .int .u32 B] 32)) pc qc pd qd c := h.kept ((Kept.refl [] w).alloc _) (by simp) (by simp) (by simp) (by simp)
  have hk0 : Kept [pc, qc, pd, qd] w (w.alloc (.cells #[.int .i64 5, .int .i64 al, .int .u32 A, .int .u32 B] 32)) := ((Kept.refl _ w).alloc _)
  have hrel := ck_Tick' _ pc qc c hb.hc
  have b1 := h.hc.row.lt
  have b2 := h.hc.arow.lt
  have b3 := h.hd.lt
  have b4 := h.n5
  have hnl : (fired c.al 1).length ≤ 64 := Nat.le_trans (firedTo_length _ _ _) h.hc.wf.n
  have hd1 : ∀ w1, Kept [pc, qc] (w.alloc (.cells #[.int .i64 5, .int .i64 al, .int .u32 A, .int .u32 B] 32)) w1 → RefAt w1 pd qd c := fun w1 h2 => (hb.left h2).1
  have fin : ∀ w1 w2 w3 v, ClockAt w1 pc qc c.tick → Kept [pc, qc] (w.alloc (.cells #[.int .i64 5, .int .i64 al, .int .u32 A, .int .u32 B] 32)) w1 → RefAt w2 pd qd c.tick → Kept [pd, qd] w1 w2 → Kept [] w2 w3 →
      w2.ownsRow (w.heap.size + 1) 3 1 v (fired c.al 1).length ((fired c.al 1).map fun i => .int .i64 (i : Nat)) → Play5 w pc qc pd qd (w.heap.size + 1) c.tick (fired c.al 1).length v w3 := by
    intro w1 w2 w3 v h1 h2 h3 h4 h5 h6
    have h7 := hb.right h1 h3 (hb.left h2).2 h4
    exact ⟨_, owns_kept h6 h5 (by simp), h7.1.kept h5 (by simp) (by simp) (by simp) (by simp), (hk0.trans h7.2).trans (h5.mono (by simp))⟩
  have own2 : ∀ w1 w2 v, w1.ownsRow (w.heap.size + 1) 3 1 v (fired c.al 1).length ((fired c.al 1).map fun i => .int .i64 (i : Nat)) → Kept [pd, qd] w1 w2 → w2.ownsRow (w.heap.size + 1) 3 1 v (fired c.al 1).length ((fired c.al 1).map fun i => .int .i64 (i : Nat)) := by
    intro w1 w2 v h1 h2
    refine owns_kept h1 h2 fun k hk => ?_
    have := (h1.lt k hk).1
    simp
    omega
  rw [World.size_alloc] at hrel
  have hrf := fun w1 (hd : RefAt w1 pd qd c) => rf_Tick w1 pd qd c hd
  clear h hb hk0
  generalize hF : fired c.al 1 = F at *
  generalize c.tick = ct at *
  clear hF
  go_enter Try.func37, Try.ntmps37
  go_upto_block 1 with (first | (go_at_call 21; refine hrel.mono ?_; rintro e w1 ⟨v, rfl, h3, h4, h5⟩; have hd2 := hd1 _ h5; obtain ⟨va, vcap, rfl, hv1, hv2⟩ := owns_slice h4) | (go_at_call 117; refine (hrf _ hd2).mono ?_; rintro e w2 ⟨u, rfl, h6, h7, h8⟩; obtain ⟨ua, ucap, rfl, hu1, hu2⟩ := owns_slice h7) | (go_at_call 116; refine (law_ints w2 _ _ va ua vcap ucap F (own2 _ _ _ h4 h8) h7 hnl).mono ?_; rintro e w3 ⟨rfl, h9⟩))
  have hst := fin _ _ _ _ h3 h5 h6 h8 h9 (own2 _ _ _ h4 h8)
  have hv3 : vcap ≤ 9223372036854775807 := by unfold maxLen at hv2; exact hv2
  clear fin own2 hd1 hrf hrel h3 h4 h5 h6 h7 h8 h9 hd2
  have hF := hnl
  generalize F.length = n at *
  have HST := Lib.hid hst; clear hst
  go_wp2_with (fail)
  go_loopw [9] (fun iv wr => ∃ i : Nat, i ≤ n ∧ iv = .int .i64 i ∧ Play5 w pc qc pd qd (w.heap.size + 1) ct n (.slice va n vcap) wr) (fun iv _ => n - (intOf iv).toNat)
  case atStart => exact ⟨0, Nat.zero_le _, rfl, HST.out⟩
  case round =>
    obtain ⟨i, hin, rfl, hP⟩ := hrel
    by_cases hlt : i < n
    · obtain ⟨g, hg, ⟨u, hu⟩, hf, hgl, hnext⟩ := hP.store (by omega) (by omega) (by omega) (by omega) (by omega) i hlt
      subst hg
      clear hP HST
      go_wp2
      go_roundw
      case rel => exact ⟨i + 1, by omega, by go_num, hnext _⟩
      case measure => simp [intOf]; omega
    · obtain rfl : i = n := by omega
      have HP := Lib.hid hP; clear hP HST
      go_wp2_with (fail)
      go_loopw [7, 10] (fun v kv wr => ∃ k : Nat, k ≤ 40 ∧ kv = .int .i64 k ∧ Play5 w pc qc pd qd (w.heap.size + 1) ct (i + k) v wr) (fun _ kv _ => 40 - (intOf kv).toNat)
      case atStart => exact ⟨0, Nat.zero_le _, rfl, HP.out⟩
      case round =>
        clear HP
        obtain ⟨k, hk, rfl, hP⟩ := hrel
        by_cases hlt2 : k < 40
        · obtain ⟨ya, ycap, rfl, hy1, hy2⟩ := hP.shape
          obtain ⟨ys, hO, hBo, hK⟩ := hP
          have hws := hK.size
          have fin2 : ∀ v' w1, w1.ownsRow (w.heap.size + 1) 3 1 v' (i + k + 1) (ys ++ [.int .i64 (-2)]) → (wr.alloc (.cells #[.int .i64 (-2)] 3)).grownBy w1 (Value.slice ya (i + k) ycap).ownBlock → Play5 w pc qc pd qd (w.heap.size + 1) ct (i + (k + 1)) v' w1 := by
            intro v' w1 h1 h2
            have hk1 : Kept ((Value.slice ya (i + k) ycap).ownBlock.toList) wr w1 := Kept.grown ((Kept.refl _ wr).alloc _) h2 (fun j hj => .inl (by simp [hj]))
            have hn : ∀ x, x < w.heap.size + 1 → x ∉ (Value.slice ya (i + k) ycap).ownBlock.toList := by
              intro x hx hm
              have hm : (Value.slice ya (i + k) ycap).ownBlock = some x := by simpa using hm
              have := (hO.lt x hm).1
              omega
            exact ⟨_, h1, hBo.kept hk1 (hn _ (by omega)) (hn _ (by omega)) (hn _ (by omega)) (hn _ (by omega)), hK.then hk1 (by
              intro x hx
              have hm : (Value.slice ya (i + k) ycap).ownBlock = some x := by simpa using hx
              have := (hO.lt x hm).1
              exact .inr (by omega))⟩
          clear hBo hK
          go_wp2_with (at_builtin; go_loud (refine wpList_append_own _ rfl (.tmp 105) (.tmp 106) 35 rfl (w.heap.size + 1) 3 i0 (.int .i64 0) 1 8 Try.underlying35 hi hz0 hz1 hz2 rfl (by decide) _ _ _ rfl (hO.alloc _) ⟨wr.heap.size, 0, none⟩ 1 1 [.int .i64 (-2)] rfl rfl (by intro j u hj; match j, hj with | 0, hj => simp at hj; subst hj; simp [Addr.add, go_sem]) (by simp [Value.oneCell']) (by unfold maxLen; omega) (by omega) (by simp; omega) ?_); intro v' w1 hown' hgrow hnn)
          go_roundw
          case rel => exact ⟨k + 1, by omega, by go_num, fin2 _ _ hown' hgrow⟩
          case measure => simp [intOf]; omega
        · obtain rfl : k = 40 := by omega
          obtain ⟨ya, ycap, rfl, hy1, hy2⟩ := hP.shape
          obtain ⟨ys, hO, hBo, hK⟩ := hP
          clear hO
          go_wp2
          go_ret
          exact ⟨rfl, hBo, hK⟩
end Go.Proofs.Ytopgfhcgfpceaaa
