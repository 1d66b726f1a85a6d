/- The walk of package ready: Ring, over whatever queue. -/
import Derived.Test.YtopgfhcgfpceaaaLrA
namespace Go.Proofs.Ytopgfhcgfpceaaa
open Go.RowKit Go.Shelf

attribute [local go_sem] Oper.semAt_some

set_option maxRecDepth 100000 in
set_option maxHeartbeats 2000000 in
theorem q_RingS (w : World) (a0 : Option Addr) (ptr : Int → Option Addr) (qs : List QR) (p : Int) (h : QSrc w a0 ptr qs) :
    Calls Try.prog 123 #[.pointer a0, .int .i64 p] w fun e w' => ∃ v, e = .returned v ∧ w'.ownsRow w.heap.size 3 1 v (qring qs p).length ((qring qs p).flatMap fun x => [Value.int .i64 x]) ∧ Kept [] w w' := by
  obtain ⟨i0, hi, hz0, hz1, hz2⟩ := info_parts Try.info3
  have hlen := qring_len h.wf p
  have k1 : Kept [] w (w.alloc (.cells #[.slice none 0 0] 35)) := (Kept.refl _ _).alloc _
  have ha := h.at_ _ p k1
  have k2 : Kept [] w ((w.alloc (.cells #[.slice none 0 0] 35)).alloc (.cells #[.pointer (ptr p)] 90)) := k1.alloc _
  have bO := Boxed.new w 35 (.slice none 0 0)
  have bN := Boxed.new (w.alloc (.cells #[.slice none 0 0] 35)) 90 (.pointer (ptr p))
  rw [World.size_alloc] at bN
  have bO2 := bO.alloc (.cells #[.pointer (ptr p)] 90)
  have hstops := h.it _ p 4 (w.heap.size + 1) (fun k => k = w.heap.size) w.heap.size k2 (by omega) (by rintro k rfl; simp; omega) (fun k hk => by rw [boxRow_box bO2] at hk; cases hk) (by simp; omega) bN.cell
  have hf1 : Fence.wide.fn 104 := trivial
  have hf2 : Fence.wide.fn 105 := trivial
  have hw0 : Fence.wide.depth.isSome = false := rfl
  have hn5 : 1 ≤ 5 := by omega
  generalize hxs : qring qs p = xs at *
  generalize hq : ptr p = a at *
  clear h hxs hq
  refine callsIn_wide.1 (?_ : CallsIn Fence.wide 5 Try.prog _ _ _ _)
  refine callsIn_of_wp_marks Try.func123 rfl trivial ?_ rfl
  simp only [Try.ntmps123, List.size_toArray, List.length_cons, List.length_nil, Nat.reduceAdd, Nat.reduceSub, Array.replicate_succ, Array.replicate_zero, List.push_toArray, List.append_toArray, List.nil_append, List.cons_append]
  gi_wp2_with (first | (gi_at_call 104; refine (callsIn_wide.2 ha).mono ?_; rintro e w' ⟨rfl, rfl⟩) | (gi_at_call 105; refine (callsIn_wide.2 (rg_All _ _)).mono ?_; rintro e w' ⟨rfl, rfl⟩))
  have hB0 : Below w.heap.size w ((w.alloc (.cells #[.slice none 0 0] 35)).alloc (.cells #[.pointer a] 90)) := k2.below
  have hsz : ((w.alloc (.cells #[.slice none 0 0] 35)).alloc (.cells #[.pointer a] 90)).heap.size = w.heap.size + 2 := by simp
  have hiter := hstops.weaken (K' := KpD (fun k => k = w.heap.size) w.heap.size) (fun _ _ hh => hh.k)
  clear hstops
  refine range_law (n := 5) (by omega) (gf := 199) (lb := #[.pointer (some ⟨w.heap.size + 1, 0, none⟩)]) rfl (enters_of Try.func199 (by kernel_rfl) rfl) hiter (fun _ => rfl) (fun l A C D _ h1 h2 => h1.books h2)
    (fun j V => Kept [] w V ∧ Coll w.heap.size w.heap.size 35 3 1 (fun x : Int => [Value.int .i64 x]) (xs.take j) V) (fun _ _ _ => False) ?stab (fun _ _ _ _ h1 _ => h1) ⟨k2, _, bO2, World.ownsRow_nil _ _ _ _⟩ ?round ?done ?stop
  case stab =>
    rintro j A B ⟨h1, v, h2, h3⟩ hit
    rw [hsz] at hit
    exact ⟨h1.iters hit (by omega), v, hit.boxed h2, hit.owns h3⟩
  case stop =>
    intro D j c V _ _ _ hh _
    exact hh.elim
  case round =>
    rintro l2 j x V hl2 hx ⟨hKV2, v, hv, hrow⟩
    rw [hsz] at hl2
    have hts : xs.take (j + 1) = xs.take j ++ [x] := by rw [List.take_add_one, hx]; rfl
    have hLl : (xs.take j).length ≤ 65536 := by rw [List.length_take]; omega
    have HTS := Lib.hid hts
    generalize xs.take j = L at *
    have hVs := hKV2.size
    clear hts hiter k1 k2 bO bN bO2 ha hB0
    gi_wp2
    refine ⟨KeepsFrom.refl _ _, fun w2 hb => ?_⟩
    have hit := hb.iters (B := w.heap.size) (by omega)
    have hKw := hKV2.iters hit (Nat.le_refl _)
    have hv2 := hit.boxed hv
    have hrow2 := hit.owns hrow
    have hc3 := hv2.cell
    have hws := hKw.size
    have fin : ∀ v' w1, w1.ownsRow w.heap.size 3 1 v' (L.length + 1) (L.flatMap (fun x : Int => [Value.int .i64 x]) ++ [.int .i64 x]) → (w2.alloc (.cells #[.int .i64 x] 3)).grownBy w1 v.ownBlock → (v'.ownBlock = v.ownBlock ∨ v'.ownBlock = some (w2.alloc (.cells #[.int .i64 x] 3)).heap.size) →
        (KeepsFrom (w.heap.size + 2) w2 (w1.setCell ⟨w.heap.size, 0, none⟩ v') ∧ KpD (fun j => j = w.heap.size) w.heap.size V (w1.setCell ⟨w.heap.size, 0, none⟩ v') ∧ Kept [] w (w1.setCell ⟨w.heap.size, 0, none⟩ v') ∧ Coll w.heap.size w.heap.size 35 3 1 (fun x : Int => [Value.int .i64 x]) (xs.take (j + 1)) (w1.setCell ⟨w.heap.size, 0, none⟩ v')) ∧ w1.cell? ⟨w.heap.size, 0, none⟩ = some v ∧ w1.frozen? ⟨w.heap.size, 0, none⟩ = false := by
      intro v' w1 hown' hgrow hat
      have hp := Coll.put (enc := fun x : Int => [Value.int .i64 x]) (x := x) hv2 (by decide) hrow2 hws (Nat.le_refl _) hown' hgrow hat (fun j => j = w.heap.size) rfl
      obtain ⟨hv1, hv3, _⟩ := hv2.appended (by decide) hrow2 hws (Nat.le_refl _) hown' hgrow
      exact ⟨⟨hp.1.from _, (hb.kpd ⟨_, hv.cell⟩).trans ⟨hp.2.1, fun i ds hi2 => hp.1.same i _ hi2 rfl, _, hv3.cell⟩, Kept.of_below (hKw.below.trans hp.2.2.2) _, by rw [HTS.out]; exact hp.2.2.1⟩, hv1.cell, hv1.frozen⟩
    clear hb hit hKw hv2 hv hKV2
    gi_wp2_with (gi_at_builtin; go_loud (refine wpListIn_append_own_at _ rfl (.tmp 12) (.tmp 14) 35 rfl w.heap.size 3 i0 (.int .i64 0) 1 8 Try.underlying35 hi hz0 hz1 hz2 rfl (by decide) _ _ _ rfl (hrow2.alloc _) ⟨w2.heap.size, 0, none⟩ 1 1 [.int .i64 x] rfl rfl (cell_one_new _ _ _) (by simp [Value.oneCell']) (by unfold maxLen; omega) (by omega) (by simp; omega) ?_; intro v' w1 hown' hgrow hnil hat; obtain ⟨g', cap', rfl⟩ := ownsRow_succ hown'; have hp := fin _ w1 hown' hgrow hat; have hc1 := hp.2.1; have hf1 := hp.2.2; have HP := Lib.hid hp.1; clear hown' hgrow hnil hat hp))
    exact ⟨by rw [hsz]; exact HP.out.1, HP.out.2⟩
  case done =>
    rintro D V hD ⟨hK, v, hv, hrow⟩ hDd
    rw [List.take_length] at hrow
    rw [hsz] at hD
    have hc := hv.cell
    clear hiter k1 k2 bO bN bO2 ha hB0
    gi_wp2
    refine ⟨by simp, .inl ⟨_, _, rfl, run_takeDeferred hDd, ?_⟩⟩
    exact ⟨_, results_tmp rfl _ _ _, v, rfl, ownsRow_putObj hrow _ hDd rfl, Kept.of_below (hK.below.trans (belowK_b (w := w) (Nat.le_refl _) V D _ _ (by omega) hDd rfl rfl)) _⟩
end Go.Proofs.Ytopgfhcgfpceaaa
