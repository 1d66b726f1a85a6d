/- The laws of ready: what 'all' gathers. -/
import Derived.Test.YtopgfhcgfpceaaaQmL
namespace Go.Proofs.Ytopgfhcgfpceaaa
open Go.RowKit Go.Shelf

variable {m : Bool}

attribute [local go_sem] Oper.semAt_some

theorem fn_nil (w : World) (g : Nat) (lb : Array Value) : (binOp .eql 58 (.func (.func g) #[] lb) .nilFunc).run Try.prog w = .ok (.bool false) w := by kernel_rfl

set_option maxRecDepth 100000 in
set_option maxHeartbeats 4000000 in
theorem law_all (w : World) (a0 : Option Addr) (ptr : Int → Option Addr) (qs : List QR) (h : QSrc w a0 ptr qs) :
    Calls Try.prog 40 #[.pointer a0] w fun e w' => ∃ v, e = .returned v ∧ w'.ownsRow w.heap.size 61 2 v (qall qs).length ((qall qs).flatMap qEnc) ∧ Kept [] w w' := by
  obtain ⟨i0, hi, hz0, hz1, hz2⟩ := info_parts q_info
  have hf1 : Fence.wide.fn 29 := trivial
  have hw0 : Fence.wide.depth.isSome = false := rfl
  have hfn := fn_nil
  have hn9 : 1 ≤ 9 := by omega
  refine callsIn_wide.1 (?_ : CallsIn Fence.wide 9 Try.prog _ _ _ _)
  refine callsIn_of_wp_marks Try.func40 rfl trivial ?_ rfl
  simp only [Try.ntmps40, List.size_toArray, List.length_cons, List.length_nil, Nat.reduceAdd, Nat.reduceSub, Array.replicate_succ, Array.replicate_zero, List.push_toArray, List.append_toArray, List.nil_append, List.cons_append]
  gi_wp2_with (gi_at_call 29; refine (callsIn_wide.2 (q_All _ _)).mono ?_; rintro e w' ⟨rfl, rfl⟩)
  have hK2 : Kept [] w ((w.alloc (.cells #[.slice none 0 0] 55)).alloc (.cells #[.pointer a0] 47)) := ((Kept.refl _ _).alloc _).alloc _
  have bO := Boxed.new w 55 (.slice none 0 0)
  have bN := Boxed.new (w.alloc (.cells #[.slice none 0 0] 55)) 47 (.pointer a0)
  rw [World.size_alloc] at bN
  have bO2 := bO.alloc (.cells #[.pointer a0] 47)
  have hsz : ((w.alloc (.cells #[.slice none 0 0] 55)).alloc (.cells #[.pointer a0] 47)).heap.size = w.heap.size + 2 := by simp
  have hiter := q_iter 8 (by omega) (w.heap.size + 1) a0 ptr qs _ (h.kept hK2) bN.cell (fun j => j = w.heap.size) w.heap.size (by rintro j rfl; simp; omega) (fun j hj => by rw [boxRow_box bO2] at hj; cases hj) (by simp; omega)
  have hlen := qall_len qs h.wf.r
  have hql := h.wf.len
  obtain ⟨xs, hxs⟩ : ∃ xs, xs = qall qs := ⟨_, rfl⟩
  have hlx : xs.length ≤ 4194304 := by rw [hxs]; omega
  rw [← hxs] at hiter
  have HXS := Lib.hid hxs
  clear hlen hql h hxs
  refine range_law (n := 9) (by omega) (gf := 103) (lb := #[.pointer (some ⟨w.heap.size + 1, 0, none⟩)]) rfl (enters_of Try.func103 (by kernel_rfl) rfl) hiter (fun _ => rfl) (fun l A C D _ h1 h2 => h1.books h2)
    (fun j V => Kept [] w V ∧ Coll w.heap.size w.heap.size 55 61 2 qEnc (xs.take j) V) (fun _ _ _ => False) ?stab (fun _ _ _ _ h1 _ => h1) ⟨hK2, _, bO2, World.ownsRow_nil _ _ _ _⟩ ?round ?done ?stop
  case stab =>
    rintro j A B ⟨h1, v, h2, h3⟩ hit
    rw [hsz] at hit
    exact ⟨h1.iters hit (by omega), v, hit.boxed h2, hit.owns h3⟩
  case stop =>
    intro D j c V _ _ _ hh _
    exact hh.elim
  case round =>
    rintro l2 j ⟨x1, x2⟩ V hl2 hx ⟨hKV2, v, hv, hrow⟩
    rw [hsz] at hl2
    have hts : xs.take (j + 1) = xs.take j ++ [(x1, x2)] := by rw [List.take_add_one, hx]; rfl
    have hLl : (xs.take j).length ≤ 4194304 := by rw [List.length_take]; omega
    have HTS := Lib.hid hts
    generalize xs.take j = L at *
    have hbx : Row (V.alloc (.cells #[.int .i64 x1, .int .i64 x2] 61)) V.heap.size 61 [.int .i64 x1, .int .i64 x2] := Row.new' rfl
    have hVs := hKV2.size
    have hpre : KeepsFrom (w.heap.size + 2) V (V.alloc (.cells #[.int .i64 x1, .int .i64 x2] 61)) := (KeepsOthers.alloc V _).from _
    clear hts hiter hK2 bO bN bO2 hfn
    gi_wp2
    refine ⟨by rw [hsz]; exact hpre, fun w2 hb => ?_⟩
    have hit := hb.iters (B := w.heap.size) (by omega)
    have hKw := (hKV2.alloc _).iters hit (Nat.le_refl _)
    have hv2 := hit.boxed (hv.alloc _)
    have hrow2 := hit.owns (hrow.alloc _)
    have hbx2 := hit.row hbx
    have hc3 := hv2.cell
    have e0 := hbx2.cell (i := 0) rfl
    have e1 := hbx2.cell (i := 1) rfl
    have hws := hKw.size
    have fin : ∀ v' w1, w1.ownsRow w.heap.size 61 2 v' (L.length + 1) (L.flatMap qEnc ++ qEnc (x1, x2)) → (w2.alloc (.cells #[.int .i64 x1, .int .i64 x2] 61)).grownBy w1 v.ownBlock → (v'.ownBlock = v.ownBlock ∨ v'.ownBlock = some (w2.alloc (.cells #[.int .i64 x1, .int .i64 x2] 61)).heap.size) →
        (KeepsFrom (w.heap.size + 2) w2 (w1.setCell ⟨w.heap.size, 0, none⟩ v') ∧ KpD (fun j => j = w.heap.size) w.heap.size V (w1.setCell ⟨w.heap.size, 0, none⟩ v') ∧ Kept [] w (w1.setCell ⟨w.heap.size, 0, none⟩ v') ∧ Coll w.heap.size w.heap.size 55 61 2 qEnc (xs.take (j + 1)) (w1.setCell ⟨w.heap.size, 0, none⟩ v')) ∧ w1.cell? ⟨w.heap.size, 0, none⟩ = some v ∧ w1.frozen? ⟨w.heap.size, 0, none⟩ = false := by
      intro v' w1 hown' hgrow hat
      have hp := Coll.put (enc := qEnc) (x := (x1, x2)) hv2 (by decide) hrow2 hws (Nat.le_refl _) hown' hgrow hat (fun j => j = w.heap.size) rfl
      obtain ⟨hv1, hv3, _⟩ := hv2.appended (by decide) hrow2 hws (Nat.le_refl _) hown' hgrow
      refine ⟨⟨hp.1.from _, ?_, Kept.of_below (hKw.below.trans hp.2.2.2) _, by rw [HTS.out]; exact hp.2.2.1⟩, hv1.cell, hv1.frozen⟩
      have k0 : KpD (fun j => j = w.heap.size) w.heap.size V (V.alloc (.cells #[.int .i64 x1, .int .i64 x2] 61)) := by
        refine ⟨⟨by simp, fun k o _ hk _ _ => (Below.heap_alloc _ _ _ (Array.getElem?_eq_some_iff.1 hk).1).trans hk, fun k hk => ?_⟩, fun k ds hk => (Below.heap_alloc _ _ _ (Array.getElem?_eq_some_iff.1 hk).1).trans hk, _, (hv.alloc _).cell⟩
        rw [boxRow_box (hv.alloc _)] at hk
        rw [boxRow_box hv]
        exact .inl hk
      exact (k0.trans (hb.kpd ⟨_, (hv.alloc _).cell⟩)).trans ⟨hp.2.1, fun i ds hi2 => hp.1.same i _ hi2 rfl, _, hv3.cell⟩
    clear hb hit hKw hv2 hbx2 hv hbx hKV2 hpre
    gi_wp2_with (gi_at_builtin; go_loud (refine wpListIn_append_own_at _ rfl (.tmp 14) (.tmp 16) 55 rfl w.heap.size 61 i0 (.agg #[.int .i64 0, .int .i64 0]) 2 16 Try.underlying55 hi hz0 hz1 hz2 rfl (by decide) _ _ _ rfl (hrow2.alloc _) ⟨w2.heap.size, 0, none⟩ 1 1 [.int .i64 x1, .int .i64 x2] rfl rfl (news_two _ _ _ _) (by simp [Value.oneCell']) (by unfold maxLen; omega) (by omega) (by simp; omega) ?_; intro v' w1 hown' hgrow hnil hat; obtain ⟨g', cap', rfl⟩ := ownsRow_succ hown'; have hp := fin _ w1 hown' hgrow hat; have hc1 := hp.2.1; have hf1 := hp.2.2; have HP := Lib.hid hp.1; clear hown' hgrow hnil hat hp))
    exact ⟨by rw [hsz]; exact HP.out.1, HP.out.2⟩
  case done =>
    rintro D V hD ⟨hK, v, hv, hrow⟩ hDd
    rw [List.take_length] at hrow
    rw [hsz] at hD
    have hc := hv.cell
    clear hiter hK2 bO bN bO2 hfn
    gi_wp2
    refine ⟨by simp, .inl ⟨_, _, rfl, run_takeDeferred hDd, ?_⟩⟩
    refine ⟨_, results_tmp rfl _ _ _, v, rfl, ?_, Kept.of_below (hK.below.trans (belowK_b (w := w) (Nat.le_refl _) V D _ _ (by omega) hDd rfl rfl)) _⟩
    rw [← HXS.out]
    exact ownsRow_putObj hrow _ hDd rfl
end Go.Proofs.Ytopgfhcgfpceaaa
