/- The program's FirstRests returns what the reference's returns, for all tasks; no condition beside. -/
import Derived.Test.YtnmpjikiodnmnaaCFnExactFirstRests2
section
namespace Go.Proofs.Ytnmpjikiodnmnaa.P
open Go.RowKit Go.Proofs.YtnmpjikiodnmnaaW.PrintWords Go.Proofs.YtnmpjikiodnmnaaW.PrintLast Go.Proofs.YtnmpjikiodnmnaaW.PrintMore
attribute [local go_sem] max2_int min2_int max_two min_two max_three min_three max_four min_four   -- for this text's walks alone
set_option linter.unusedVariables false
set_option linter.unusedSimpArgs false
set_option maxHeartbeats 8000000 in
set_option maxRecDepth 100000 in
theorem impl_Tasks_rests.calls (ok : Int × Int → Prop) (mt : Int × Int → Int × Int → Bool) (hm : ∀ c l, ok c → (∀ d ∈ l, ok d) → ∃ k, impl_Class_isApart.f k c l = some (l.all fun d => !mt d c)) (gaps : List Int) (A0 : Option Addr) (c0 base gb : Nat) (hok : ∀ g ∈ gaps, ∀ r, 0 ≤ r → r < g → ok (r, g)) (hmax : ∀ g ∈ gaps, g ≤ 9223372036854775807) (hlen : gaps.length ≤ 1000) :
    ∀ (n : Nat) (l : List (Int × Int)) (u u0 : Value) (w : World), l.length + n = gaps.length → (∀ c ∈ l, ok c) → base ≤ w.heap.size → Kd.C (Kd.int .i64) w A0 gaps.length gaps → gaps.length ≤ c0 → Kd.R ckd 63 w base (fun _ => True) u l → w.heap[gb]? = some (.cells #[u0] 35 (0, 0)) →
    Calls Try.prog 42 #[.agg #[.slice A0 gaps.length c0], u, .func (.func 43) #[] #[.pointer (some ⟨gb, 0, none⟩)]] w fun e w' => e = .returned (.bool (restsT mt (gaps.drop l.length) l).isSome) ∧ ∃ w1 v, Below w.heap.size w w1 ∧ Kd.R ckd 63 w1 base (fun _ => True) v ((restsT mt (gaps.drop l.length) l).getD []) ∧ w' = if (restsT mt (gaps.drop l.length) l).isSome then w1.setCell ⟨gb, 0, none⟩ v else w1 := by
  intro n
  induction n with
  | zero =>
    intro l u u0 w hn hl hbase hr0 hc0 hu hbk
    have hd : gaps.drop l.length = [] := List.drop_of_length_le (by omega)
    rw [hd, restsT]
    obtain ⟨A, c, rfl⟩ := Kd.R_slice hu
    have hu38 := Try.underlying38
    have e1 : ((l.length : Int) == (gaps.length : Int)) = true := beq_iff_eq.mpr (by omega)
    have HF := Aside0.mk (fun W (hb : Below w.heap.size w W) => impl_FirstRests_1.calls gb A l.length c u0 W (blk_below hbk hb))
    have HO := Aside0.mk hu
    have HB := Aside0.mk (Below.refl w.heap.size w)
    clear hn hl hbase hr0 hu hd hm hok hmax hlen hc0
    show Calls Try.prog 42 #[.agg #[.slice A0 gaps.length c0], .slice A l.length c, .func (.func 43) #[] #[.pointer (some ⟨gb, 0, none⟩)]] w fun e w' => e = .returned (.bool true) ∧ ∃ w1 v, Below w.heap.size w w1 ∧ Kd.R ckd 63 w1 base (fun _ => True) v l ∧ w' = w1.setCell ⟨gb, 0, none⟩ v
    have eg : ∀ args w, (callFunc 43 args).run Try.prog w = .ok (.enter 43 args) w := enters_of Try.func43 zk rfl
    go_enter Try.func42, Try.ntmps42
    go_wp2_with (first | ((with_reducible refine gate_dst (N := 3) rfl ?_); refine box_event zr (N := 3) zr (cs := #[.slice A0 gaps.length c0]) (t := 38) zg ?_; intro gb1 hg w1 hbox hb; have hq : w1.cell? ⟨gb1, 0, none⟩ = some (.slice A0 gaps.length c0) := zc hbox; have n_ := y2 (below_step HB.out hb) (Kd.R_below HO.out hb); clear HB HO; obtain ⟨HB, HO⟩ := n_; clear hb hbox hg) | (go_at_fn 43; refine (HF.out _ HB.out).mono ?_; rintro e w' ⟨rfl, rfl⟩))
    go_ret
    exact ⟨rfl, _, _, HB.out, HO.out, rfl⟩
  | succ n ih =>
    intro l u u0 w hn hl hbase hr0 hc0 hu hbk
    have hlt : l.length < gaps.length := by omega
    have hd : gaps.drop l.length = gaps[l.length] :: gaps.drop (l.length + 1) := List.drop_eq_getElem_cons hlt
    rw [hd, restsT]
    obtain ⟨A, c, rfl, hc, hC⟩ := Kd.R_reads hu
    obtain ⟨ad, ea, hx⟩ := Kd.at_int hr0 (l.length : Int) (by omega) (by omega)
    subst ea
    have hg0 : rd gaps (l.length : Int) = gaps[l.length] := by simp [rd, hlt]
    rw [hg0, Int.toNat_natCast] at hx
    have hgm : gaps[l.length] ∈ gaps := List.getElem_mem hlt
    have ho1 := hok _ hgm
    have hm1 := hmax _ hgm
    clear hg0 hd hgm hmax
    generalize gaps[l.length] = g at hx ho1 hm1 ⊢
    have IH := Aside0.mk (fun (r : Int) (v : Value) (W : World) (h0 : 0 ≤ r) (h1 : r < g) (hb : Below w.heap.size w W) (hv : Kd.R ckd 63 W base (fun _ => True) v (l ++ [(r, g)])) => ih (l ++ [(r, g)]) v u0 W (by simp; omega) (fun c hc => by
      rcases List.mem_append.1 hc with hc | hc
      · exact hl c hc
      · rw [List.mem_singleton.1 hc]
        exact ho1 r h0 h1) (Nat.le_trans hbase hb.size) (Kd.C_below hr0 hb) hc0 hv (blk_below hbk hb))
    have hu38 := Try.underlying38
    have e1 : ((l.length : Int) == (gaps.length : Int)) = false := beq_eq_false_iff_ne.mpr (by omega)
    have q1 := eq_true (show (0 : Int) ≤ (l.length : Int) by omega)
    have q2 := eq_true (show (l.length : Int) < (gaps.length : Int) by omega)
    have HL := Aside0.mk hC
    have HB := Aside0.mk (Below.refl w.heap.size w)
    have LM := Aside0.mk (show l.length < 1000 by omega)
    have HG := Aside0.mk hm1
    have HX := Aside0.mk hx
    have HC := Aside0.mk hc
    have HM := Aside0.mk (fun (r : Int) (h0 : 0 ≤ r) (h1 : r < g) => hm (r, g) l (ho1 r h0 h1) hl)
    have HBASE := Aside0.mk hbase
    simp only [List.length_append, List.length_singleton] at IH
    generalize gaps.drop (l.length + 1) = gs at IH ⊢
    clear hn hl hbase hr0 hu hm hok hlen hc0 hC ih hlt hc ho1 hm1 hx hbk
    have HV := Aside0.mk (show firstT (fun r => l.all fun c => !mt c (r, g)) (fun r => restsT mt gs (l ++ [(r, g)])) (g - 0).toNat 0 = firstT (fun r => l.all fun c => !mt c (r, g)) (fun r => restsT mt gs (l ++ [(r, g)])) g.toNat 0 by rw [Int.sub_zero])
    generalize firstT (fun r => l.all fun c => !mt c (r, g)) (fun r => restsT mt gs (l ++ [(r, g)])) g.toNat 0 = R at HV ⊢
    go_enter Try.func42, Try.ntmps42
    go_wp2_with (first | ((with_reducible refine gate_dst (N := 3) rfl ?_); refine box_event zr (N := 3) zr (cs := #[.slice (some ad) gaps.length c0]) (t := 38) zg ?_; intro g3 hg w1 hbox hb; have hq : w1.cell? ⟨g3, 0, none⟩ = some (.slice (some ad) gaps.length c0) := zc hbox; have hx1 := pw_cell_below hb HX.out; have n_ := y2 (below_step HB.out hb) hbox; clear HB; obtain ⟨HB, BK⟩ := n_; clear hb hbox hg))
    go_loopg [26] (g.toNat + 1) (fun kq v7 w' => ∃ r : Int, v7 = .int .i64 r ∧ Aside0 (0 ≤ r) ∧ Aside0 ((g - r).toNat < kq) ∧ Aside0 (firstT (fun r => l.all fun c => !mt c (r, g)) (fun r => restsT mt gs (l ++ [(r, g)])) (g - r).toNat r = R) ∧ Aside0 (w'.heap[g3]? = some (.cells #[.slice (some ad) gaps.length c0] 38 (0, 0))) ∧ Aside0 (Below w.heap.size w w'))
    case atStart => exact ⟨0, rfl, ⟨Int.le_refl 0⟩, ⟨by omega⟩, HV, ⟨zG BK.out⟩, HB⟩
    case round =>
      clear HV HB BK hq hx1
      obtain ⟨r, rfl, H0, HK, HV, BK, HB⟩ := hrel
      by_cases hr : r < g
      · have hr1 : decide (r < g) = true := decide_eq_true hr
        have hr2 := eq_true hr
        obtain ⟨k1, rfl⟩ : ∃ k1, gk = k1 + 1 := ⟨gk - 1, by have := HK.out; omega⟩
        have hv := HV.out
        rw [show (g - r).toNat = (g - (r + 1)).toNat + 1 by omega, firstT] at hv
        have HV1 := Aside0.mk hv
        have HR := Aside0.mk hr
        clear hv HV hr
        go_wp2_with (first | ((with_reducible refine gate_dst (N := 9) rfl ?_); refine box_event zr (N := 9) zr (cs := #[.int .i64 0, .int .i64 0]) (t := 63) zg ?_; intro g9 hg w3 hbox hb; have hy0 : w3.cell? ⟨g9, 0, none⟩ = some (.int .i64 0) := (blk_cell hbox 0).trans rfl; have hy1 : w3.cell? ⟨g9, 1, none⟩ = some (.int .i64 0) := (blk_cell hbox 1).trans rfl; have hf0 := blk_frozen hbox 0; have hf1 := blk_frozen hbox 1; have n_ := y4 (below_step HB.out hb) (blk_below BK.out hb) hbox (zS hg : w.heap.size ≤ g9); clear HB BK; obtain ⟨HB, BK, BK9, GE9⟩ := n_; clear hb hbox hg))
        have NE : g3 ≠ g9 := blk_ne BK.out BK9.out (by decide)
        have n_ := y3 (below_drew1 (below_set (below_set HB.out GE9.out (j := 0) (v := .int .i64 r)) GE9.out (j := 1) (v := .int .i64 g))) (blk_drew (blk_far (blk_far BK.out (p := ⟨g9, 0, none⟩) NE (.int .i64 r)) (p := ⟨g9, 1, none⟩) NE (.int .i64 g))) (blk_drew (blk_put (cs' := #[.int .i64 r, .int .i64 g]) (blk_put (cs' := #[.int .i64 r, .int .i64 0]) BK9.out 0 (.int .i64 r) rfl) 1 (.int .i64 g) rfl))
        clear HB BK BK9 hy0 hy1 hf0 hf1 NE GE9
        obtain ⟨HB, BK, BK9⟩ := n_
        refine start_ (n := 13) (S := fun w' => w'.cell? ⟨g3, 0, none⟩ = some (.slice (some ad) gaps.length c0) ∧ w'.cell? ⟨g9, 0, none⟩ = some (.int .i64 r) ∧ w'.cell? ⟨g9, 1, none⟩ = some (.int .i64 g)) (ds := [11]) #[false,false,false,false,false,false,false,false,false,false,false,false,false] zk rfl rfl ⟨zc BK.out, (blk_cell BK9.out 0).trans rfl, (blk_cell BK9.out 1).trans rfl⟩ (fun hHeld => ?_)
        generalize ((w3.setCell ⟨g9, 0, none⟩ (.int .i64 r)).setCell ⟨g9, 1, none⟩ (.int .i64 g)).drew = wd at HB BK BK9 hHeld ⊢
        refine take_ (i := 0) (N := some 32) (v := ?_) (a' := ?_) #[true,false,false,false,false,false,false,false,false,false,false,false,false] rfl rfl zk (fun _ _ _ h => h) (Or.inl ⟨by rfl, ?_⟩) hHeld ?_ ?_
        rotate_left
        · rintro w' ⟨s0, s1, s2⟩
          go_simp
          with_reducible rfl
        rotate_left
        exact zq
        refine pure_ (i := 1) (N := some 33) (v := ?_) (a' := ?_) #[true,true,false,false,false,false,false,false,false,false,false,false,false] rfl rfl zk (fun _ _ _ h => h) (Or.inl ⟨by rfl, ?_⟩) ?_ ?_
        rotate_left; exact zp; rotate_left; exact zq
        obtain ⟨km, hkm⟩ := HM.out r H0.out HR.out
        have HP := Aside0.mk (impl_Class_isApart.calls km (r, g) A c l (l.all fun d => !mt d (r, g)) wd (Kd.C_below HL.out HB.out) HC.out hkm)
        clear hkm
        have hV1 := HV1.out
        clear HV1
        generalize (l.all fun d => !mt d (r, g)) = good at HP hV1
        refine one_ (i := 2) (N := some 34) #[true,true,true,false,false,false,false,false,false,false,false,false,false] rfl rfl zk (by decide) (fun K hK => ?_)
        refine goes_ Try.func53 zk rfl #[.agg #[.int .i64 r, .int .i64 g], .slice A l.length c] (by rfl) rfl rfl (by (try simp only [List.map_toArray, List.map_cons, List.map_nil]); first | done | rfl) ?_
        refine (HP.out).mono ?_
        rintro e w4 ⟨rfl, hb⟩
        have hS := Aside0.mk (hHeld)
        clear hHeld
        have n_ := y3 (below_step HB.out hb) (blk_below BK.out hb) (blk_below BK9.out hb)
        clear HB BK BK9 HP
        obtain ⟨HB, BK, BK9⟩ := n_
        refine ⟨_, rfl, ?_⟩
        refine hK.out _ _ ⟨(hb.cell (World.block_lt_of_cell? _ _ hS.out.1)).trans hS.out.1, (hb.cell (World.block_lt_of_cell? _ _ hS.out.2.1)).trans hS.out.2.1, (hb.cell (World.block_lt_of_cell? _ _ hS.out.2.2)).trans hS.out.2.2⟩ (fun hHeld => ?_)
        clear hK K
        clear hb hS
        refine norm_ (a' := ?_) ?_ ?_
        rotate_left
        · show Act.put _ (some 34) _ = _
          simp only [Act.put, List.setIfInBounds_toArray, List.set_cons_zero, List.set_cons_succ, i64_w, i32_w]
          rfl
        have hw1 : wrap64 (r + 1) = r + 1 := by have := H0.out; have := HR.out; have := HG.out; unfold wrap64; omega
        have HW := Aside0.mk hw1
        clear hw1
        cases good with
        | false =>
          have HV := Aside0.mk (show firstT (fun r => l.all fun c => !mt c (r, g)) (fun r => restsT mt gs (l ++ [(r, g)])) (g - (r + 1)).toNat (r + 1) = R from (if_neg (by decide)).symm.trans hV1)
          clear hV1
          refine pure_ (i := 3) (N := some 35) (v := ?_) (a' := ?_) #[true,true,true,true,false,false,false,false,false,false,false,false,false] rfl rfl zk (fun _ _ _ h => h) (Or.inl ⟨by rfl, ?_⟩) ?_ ?_
          rotate_left; exact zp; rotate_left; exact zq
          refine take_ (i := 4) (N := some 36) (v := undef) (a' := ?_) #[true,true,true,true,true,false,false,false,false,false,false,false,false] rfl rfl zk (fun _ _ _ h => h) (Or.inr ⟨by rfl, rfl⟩) hHeld ?_ ?_
          rotate_left
          exact zq
          refine pure_ (i := 5) (N := some 37) (v := undef) (a' := ?_) #[true,true,true,true,true,true,false,false,false,false,false,false,false] rfl rfl zk (fun _ _ _ h => h) (Or.inr ⟨by rfl, rfl⟩) ?_ ?_
          rotate_left
          exact zq
          refine take_ (i := 7) (N := some 39) (v := undef) (a' := ?_) #[true,true,true,true,true,true,false,true,false,false,false,false,false] rfl rfl zk (fun _ _ _ h => h) (Or.inr ⟨by rfl, rfl⟩) hHeld ?_ ?_
          rotate_left
          exact zq
          refine pure_ (i := 10) (N := some 42) (v := undef) (a' := ?_) #[true,true,true,true,true,true,false,true,false,false,true,false,false] rfl rfl zk (fun _ _ _ h => h) (Or.inr ⟨by rfl, rfl⟩) ?_ ?_
          rotate_left
          exact zq
          refine two_ (i := 6) (j := 8) (Ni := some 38) (Nj := some 40) #[true,true,true,true,true,true,true,true,false,false,true,false,false] #[true,true,true,true,true,true,false,true,true,false,true,false,false] rfl rfl rfl rfl zk (by decide) (by decide) (fun K hK => ?_) (fun K hK => ?_)
          · skip
            refine off_ (by rfl) ?_
            refine hK.out _ _ hHeld (fun hHeld => ?_)
            clear hK K
            refine norm_ (a' := ?_) ?_ ?_
            rotate_left
            · show Act.put _ (some 38) _ = _
              simp only [Act.put, List.setIfInBounds_toArray, List.set_cons_zero, List.set_cons_succ, i64_w, i32_w]
              rfl
            refine one_ (i := 8) (N := some 40) #[true,true,true,true,true,true,true,true,true,false,true,false,false] rfl rfl zk (by decide) (fun K hK => ?_)
            refine off_ (by rfl) ?_
            refine hK.out _ _ hHeld (fun hHeld => ?_)
            clear hK K
            refine norm_ (a' := ?_) ?_ ?_
            rotate_left
            · show Act.put _ (some 40) _ = _
              simp only [Act.put, List.setIfInBounds_toArray, List.set_cons_zero, List.set_cons_succ, i64_w, i32_w]
              rfl
            refine one_ (i := 9) (N := some 41) #[true,true,true,true,true,true,true,true,true,true,true,false,false] rfl rfl zk (by decide) (fun K hK => ?_)
            refine off_ (by rfl) ?_
            refine hK.out _ _ hHeld (fun hHeld => ?_)
            clear hK K
            refine norm_ (a' := ?_) ?_ ?_
            rotate_left
            · show Act.put _ (some 41) _ = _
              simp only [Act.put, List.setIfInBounds_toArray, List.set_cons_zero, List.set_cons_succ, i64_w, i32_w]
              rfl
            refine last_ (i := 11) (N := some 43) #[true,true,true,true,true,true,true,true,true,true,true,true,false] rfl rfl zk (by decide) (fun K hK => ?_)
            refine off_ (by rfl) ?_
            refine hK.out _ _ ?_
            clear hK K
            refine norm_ (a' := ?_) ?_ ?_
            rotate_left
            · show Act.put _ (some 43) _ = _
              simp only [Act.put, List.setIfInBounds_toArray, List.set_cons_zero, List.set_cons_succ, i64_w, i32_w]
              rfl
            refine pure_ (i := 12) (N := some 44) (v := ?_) (a' := ?_) #[true,true,true,true,true,true,true,true,true,true,true,true,true] rfl rfl zk (fun _ _ _ h => h) (Or.inl ⟨by rfl, ?_⟩) ?_ ?_
            rotate_left; exact zp; rotate_left; exact zq
            refine done_ zk ?_
            go_wp2
            go_roundg k1
            case measure => omega
            case rel => exact ⟨r + 1, by rw [HW.out], ⟨by have := H0.out; omega⟩, ⟨by have := HK.out; have := HR.out; omega⟩, HV, ⟨zG BK.out⟩, HB⟩
          · skip
            refine off_ (by rfl) ?_
            refine hK.out _ _ hHeld (fun hHeld => ?_)
            clear hK K
            refine norm_ (a' := ?_) ?_ ?_
            rotate_left
            · show Act.put _ (some 40) _ = _
              simp only [Act.put, List.setIfInBounds_toArray, List.set_cons_zero, List.set_cons_succ, i64_w, i32_w]
              rfl
            refine one_ (i := 6) (N := some 38) #[true,true,true,true,true,true,true,true,true,false,true,false,false] rfl rfl zk (by decide) (fun K hK => ?_)
            refine off_ (by rfl) ?_
            refine hK.out _ _ hHeld (fun hHeld => ?_)
            clear hK K
            refine norm_ (a' := ?_) ?_ ?_
            rotate_left
            · show Act.put _ (some 38) _ = _
              simp only [Act.put, List.setIfInBounds_toArray, List.set_cons_zero, List.set_cons_succ, i64_w, i32_w]
              rfl
            refine one_ (i := 9) (N := some 41) #[true,true,true,true,true,true,true,true,true,true,true,false,false] rfl rfl zk (by decide) (fun K hK => ?_)
            refine off_ (by rfl) ?_
            refine hK.out _ _ hHeld (fun hHeld => ?_)
            clear hK K
            refine norm_ (a' := ?_) ?_ ?_
            rotate_left
            · show Act.put _ (some 41) _ = _
              simp only [Act.put, List.setIfInBounds_toArray, List.set_cons_zero, List.set_cons_succ, i64_w, i32_w]
              rfl
            refine last_ (i := 11) (N := some 43) #[true,true,true,true,true,true,true,true,true,true,true,true,false] rfl rfl zk (by decide) (fun K hK => ?_)
            refine off_ (by rfl) ?_
            refine hK.out _ _ ?_
            clear hK K
            refine norm_ (a' := ?_) ?_ ?_
            rotate_left
            · show Act.put _ (some 43) _ = _
              simp only [Act.put, List.setIfInBounds_toArray, List.set_cons_zero, List.set_cons_succ, i64_w, i32_w]
              rfl
            refine pure_ (i := 12) (N := some 44) (v := ?_) (a' := ?_) #[true,true,true,true,true,true,true,true,true,true,true,true,true] rfl rfl zk (fun _ _ _ h => h) (Or.inl ⟨by rfl, ?_⟩) ?_ ?_
            rotate_left; exact zp; rotate_left; exact zq
            refine done_ zk ?_
            go_wp2
            go_roundg k1
            case measure => omega
            case rel => exact ⟨r + 1, by rw [HW.out], ⟨by have := H0.out; omega⟩, ⟨by have := HK.out; have := HR.out; omega⟩, HV, ⟨zG BK.out⟩, HB⟩
        | true =>
          have HV := Aside0.mk ((if_pos rfl).symm.trans hV1)
          clear hV1 BK9
          refine pure_ (i := 3) (N := some 35) (v := ?_) (a' := ?_) #[true,true,true,true,false,false,false,false,false,false,false,false,false] rfl rfl zk (fun _ _ _ h => h) (Or.inl ⟨by rfl, ?_⟩) ?_ ?_
          rotate_left; exact zp; rotate_left; exact zq
          refine take_ (i := 4) (N := some 36) (v := ?_) (a' := ?_) #[true,true,true,true,true,false,false,false,false,false,false,false,false] rfl rfl zk (fun _ _ _ h => h) (Or.inl ⟨by rfl, ?_⟩) hHeld ?_ ?_
          rotate_left
          · rintro w' ⟨s0, s1, s2⟩
            go_simp
            with_reducible rfl
          rotate_left
          exact zq
          refine pure_ (i := 5) (N := some 37) (v := ?_) (a' := ?_) #[true,true,true,true,true,true,false,false,false,false,false,false,false] rfl rfl zk (fun _ _ _ h => h) (Or.inl ⟨by rfl, ?_⟩) ?_ ?_
          rotate_left; exact zp; rotate_left; exact zq
          refine take_ (i := 7) (N := some 39) (v := ?_) (a' := ?_) #[true,true,true,true,true,true,false,true,false,false,false,false,false] rfl rfl zk (fun _ _ _ h => h) (Or.inl ⟨by rfl, ?_⟩) hHeld ?_ ?_
          rotate_left
          · rintro w' ⟨s0, s1, s2⟩
            go_simp
            with_reducible rfl
          rotate_left
          exact zq
          refine pure_ (i := 10) (N := some 42) (v := ?_) (a' := ?_) #[true,true,true,true,true,true,false,true,false,false,true,false,false] rfl rfl zk (fun _ _ _ h => h) (Or.inl ⟨by rfl, ?_⟩) ?_ ?_
          rotate_left; exact zp; rotate_left; exact zq
          have hS := Aside0.mk (hHeld)
          clear hHeld
          have HD := Aside0.mk (Below.refl w4.heap.size w4)
          have HLd := Aside0.mk (Kd.C_below HL.out HB.out)
          refine join_ (σ := Value × Value × Value) 2 #[true,true,true,true,true,true,true,true,true,true,true,false,false] (fun s_ => [(38, s_.1), (40, s_.2.1), (41, s_.2.2)]) (fun s_ w' => Kd.R ckd 63 w' w4.heap.size (fun _ => True) s_.2.2 (l ++ [(r, g)]) ∧ Below w4.heap.size w4 w') ?_ ?_
          rotate_left
          · intro hCont
            refine two_ (i := 6) (j := 8) (Ni := some 38) (Nj := some 40) #[true,true,true,true,true,true,true,true,false,false,true,false,false] #[true,true,true,true,true,true,false,true,true,false,true,false,false] rfl rfl rfl rfl zk (by decide) (by decide) (fun K hK => ?_) (fun K hK => ?_)
            · skip
              refine goes_ Try.func54 zk rfl #[.slice A l.length c] (by rfl) rfl rfl (by (try simp only [List.map_toArray, List.map_cons, List.map_nil]); first | done | rfl) ?_
              refine (slices_Clone_Class.calls A c l l w4 (Kd.C_below HLd.out HD.out) HC.out (by unfold slices_Clone_Class.f; rw [if_pos (by have := LM.out; omega)])).mono ?_
              rintro e w5 ⟨v38, rfl, ho, hb0⟩
              have hb := below_step HD.out hb0
              have HO38b := Aside0.mk (Kd.R_lower ho HD.out.size)
              have nD_ := Aside0.mk hb
              clear HD
              have HD := nD_
              clear nD_
              refine ⟨_, rfl, ?_⟩
              refine hK.out _ _ ⟨(hb.cell (World.block_lt_of_cell? _ _ hS.out.1)).trans hS.out.1, (hb.cell (World.block_lt_of_cell? _ _ hS.out.2.1)).trans hS.out.2.1, (hb.cell (World.block_lt_of_cell? _ _ hS.out.2.2)).trans hS.out.2.2⟩ (fun hHeld => ?_)
              clear hK K
              clear ho hb hb0
              refine norm_ (a' := ?_) ?_ ?_
              rotate_left
              · show Act.put _ (some 38) _ = _
                simp only [Act.put, List.setIfInBounds_toArray, List.set_cons_zero, List.set_cons_succ, i64_w, i32_w]
                rfl
              refine one_ (i := 8) (N := some 40) #[true,true,true,true,true,true,true,true,true,false,true,false,false] rfl rfl zk (by decide) (fun K hK => ?_)
              refine Kd.R_lit_step ckd (w0 := w4) w4.heap.size 63 ?hg (N := 40) ?hd (xs := ([(r, g)] : List (Int × Int))) (inner := [.int .i64 r, .int .i64 g]) (ok := fun _ => True) (okp := fun _ => False) ?hr ?hp (fun _ hk => hk.elim) trivial HD.out (HD.out.size) (by simp) ?_
              case hd => rfl
              case hg => rfl
              case hr => first | (go_simp; done) | (go_simp; rfl)
              case hp => exact row_lit (r, g)
              intro v40 w6 ho hb hg_ hnew_
              obtain ⟨A40, c40, rfl, hc40, hC40⟩ := Kd.R_reads ho
              have HO38 := Aside0.mk (Kd.R_step HO38b.out (fun k _ hk => hg_.block k hk (by simp)))
              have HC40 := Aside0.mk (hC40)
              have nD_ := Aside0.mk hb
              clear HD
              have HD := nD_
              clear nD_
              refine hK.out _ _ ⟨(hb.cell (World.block_lt_of_cell? _ _ hS.out.1)).trans hS.out.1, (hb.cell (World.block_lt_of_cell? _ _ hS.out.2.1)).trans hS.out.2.1, (hb.cell (World.block_lt_of_cell? _ _ hS.out.2.2)).trans hS.out.2.2⟩ (fun hHeld => ?_)
              clear hK K
              clear ho hb hg_ hnew_ HO38b hc40 hC40
              refine norm_ (a' := ?_) ?_ ?_
              rotate_left
              · show Act.put _ (some 40) _ = _
                simp only [Act.put, List.setIfInBounds_toArray, List.set_cons_zero, List.set_cons_succ, i64_w, i32_w]
                rfl
              refine one_ (i := 9) (N := some 41) #[true,true,true,true,true,true,true,true,true,true,true,false,false] rfl rfl zk (by decide) (fun K hK => ?_)
              refine Kd.R_append_rows_step ckd (w0 := w4) w4.heap.size (by rfl) (.tmp 38) (.tmp 40) 35 63 (.agg #[.int .i64 0, .int .i64 0]) 16 rfl Try.underlying35 zk rfl (by decide) (by omega) v38 l [(r, g)] A40 _ c40 (fun _ => True) (fun _ => False) rfl rfl HO38.out HC40.out (fun _ _ h => h) (fun _ h => h.elim) (fun _ _ => trivial) HD.out HD.out.size (by have := LM.out; simp; omega) ?_
              intro v41 w7 ho hb hg hat
              have HO41 := Aside0.mk (ho)
              have nD_ := Aside0.mk hb
              clear HD
              have HD := nD_
              clear nD_
              refine hK.out _ _ ⟨(hb.cell (World.block_lt_of_cell? _ _ hS.out.1)).trans hS.out.1, (hb.cell (World.block_lt_of_cell? _ _ hS.out.2.1)).trans hS.out.2.1, (hb.cell (World.block_lt_of_cell? _ _ hS.out.2.2)).trans hS.out.2.2⟩ (fun hHeld => ?_)
              clear hK K
              clear ho hb hg hat HO38 HC40
              refine norm_ (a' := ?_) ?_ ?_
              rotate_left
              · show Act.put _ (some 41) _ = _
                simp only [Act.put, List.setIfInBounds_toArray, List.set_cons_zero, List.set_cons_succ, i64_w, i32_w]
                rfl
              exact norm_ (by simp only [putAll, Act.put, List.setIfInBounds_toArray, List.set_cons_zero, List.set_cons_succ]) (hCont (v38, .slice A40 [(r, g)].length c40, v41) _ ⟨HO41.out, HD.out⟩)
            · skip
              refine Kd.R_lit_step ckd (w0 := w4) w4.heap.size 63 ?hg (N := 40) ?hd (xs := ([(r, g)] : List (Int × Int))) (inner := [.int .i64 r, .int .i64 g]) (ok := fun _ => True) (okp := fun _ => False) ?hr ?hp (fun _ hk => hk.elim) trivial HD.out (HD.out.size) (by simp) ?_
              case hd => rfl
              case hg => rfl
              case hr => first | (go_simp; done) | (go_simp; rfl)
              case hp => exact row_lit (r, g)
              intro v40 w5 ho hb hg_ hnew_
              have HO40 := Aside0.mk (ho)
              have nD_ := Aside0.mk hb
              clear HD
              have HD := nD_
              clear nD_
              refine hK.out _ _ ⟨(hb.cell (World.block_lt_of_cell? _ _ hS.out.1)).trans hS.out.1, (hb.cell (World.block_lt_of_cell? _ _ hS.out.2.1)).trans hS.out.2.1, (hb.cell (World.block_lt_of_cell? _ _ hS.out.2.2)).trans hS.out.2.2⟩ (fun hHeld => ?_)
              clear hK K
              clear ho hb hg_ hnew_
              refine norm_ (a' := ?_) ?_ ?_
              rotate_left
              · show Act.put _ (some 40) _ = _
                simp only [Act.put, List.setIfInBounds_toArray, List.set_cons_zero, List.set_cons_succ, i64_w, i32_w]
                rfl
              refine one_ (i := 6) (N := some 38) #[true,true,true,true,true,true,true,true,true,false,true,false,false] rfl rfl zk (by decide) (fun K hK => ?_)
              refine goes_ Try.func54 zk rfl #[.slice A l.length c] (by rfl) rfl rfl (by (try simp only [List.map_toArray, List.map_cons, List.map_nil]); first | done | rfl) ?_
              refine (slices_Clone_Class.calls A c l l w5 (Kd.C_below HLd.out HD.out) HC.out (by unfold slices_Clone_Class.f; rw [if_pos (by have := LM.out; omega)])).mono ?_
              rintro e w6 ⟨v38, rfl, ho, hb0⟩
              have hb := below_step HD.out hb0
              obtain ⟨A40, c40, rfl, hc40, hC40⟩ := Kd.R_reads (Kd.R_below HO40.out hb0)
              have HO38 := Aside0.mk (Kd.R_lower ho HD.out.size)
              have HC40 := Aside0.mk (hC40)
              have nD_ := Aside0.mk hb
              clear HD
              have HD := nD_
              clear nD_
              refine ⟨_, rfl, ?_⟩
              refine hK.out _ _ ⟨(hb.cell (World.block_lt_of_cell? _ _ hS.out.1)).trans hS.out.1, (hb.cell (World.block_lt_of_cell? _ _ hS.out.2.1)).trans hS.out.2.1, (hb.cell (World.block_lt_of_cell? _ _ hS.out.2.2)).trans hS.out.2.2⟩ (fun hHeld => ?_)
              clear hK K
              clear ho hb hb0 HO40 hc40 hC40
              refine norm_ (a' := ?_) ?_ ?_
              rotate_left
              · show Act.put _ (some 38) _ = _
                simp only [Act.put, List.setIfInBounds_toArray, List.set_cons_zero, List.set_cons_succ, i64_w, i32_w]
                rfl
              refine one_ (i := 9) (N := some 41) #[true,true,true,true,true,true,true,true,true,true,true,false,false] rfl rfl zk (by decide) (fun K hK => ?_)
              refine Kd.R_append_rows_step ckd (w0 := w4) w4.heap.size (by rfl) (.tmp 38) (.tmp 40) 35 63 (.agg #[.int .i64 0, .int .i64 0]) 16 rfl Try.underlying35 zk rfl (by decide) (by omega) v38 l [(r, g)] A40 _ c40 (fun _ => True) (fun _ => False) rfl rfl HO38.out HC40.out (fun _ _ h => h) (fun _ h => h.elim) (fun _ _ => trivial) HD.out HD.out.size (by have := LM.out; simp; omega) ?_
              intro v41 w7 ho hb hg hat
              have HO41 := Aside0.mk (ho)
              have nD_ := Aside0.mk hb
              clear HD
              have HD := nD_
              clear nD_
              refine hK.out _ _ ⟨(hb.cell (World.block_lt_of_cell? _ _ hS.out.1)).trans hS.out.1, (hb.cell (World.block_lt_of_cell? _ _ hS.out.2.1)).trans hS.out.2.1, (hb.cell (World.block_lt_of_cell? _ _ hS.out.2.2)).trans hS.out.2.2⟩ (fun hHeld => ?_)
              clear hK K
              clear ho hb hg hat HO38 HC40
              refine norm_ (a' := ?_) ?_ ?_
              rotate_left
              · show Act.put _ (some 41) _ = _
                simp only [Act.put, List.setIfInBounds_toArray, List.set_cons_zero, List.set_cons_succ, i64_w, i32_w]
                rfl
              exact norm_ (by simp only [putAll, Act.put, List.setIfInBounds_toArray, List.set_cons_zero, List.set_cons_succ]) (hCont (v38, .slice A40 [(r, g)].length c40, v41) _ ⟨HO41.out, HD.out⟩)
          rintro ⟨v38, v40, v41⟩ w8 ⟨h0_, h1_⟩
          clear HD HLd
          have HE := Aside0.mk (IH.out r v41 w8 H0.out HR.out (below_step HB.out h1_) (Kd.R_lower h0_ (Nat.le_trans HBASE.out HB.out.size)))
          have n_ := y2 (below_step HB.out h1_) (blk_below BK.out h1_)
          clear HB BK h0_ h1_ hS
          obtain ⟨HB, BK⟩ := n_
          refine norm_ (a' := ?_) ?_ ?_
          rotate_left
          · simp only [putAll, Act.put, List.setIfInBounds_toArray, List.set_cons_zero, List.set_cons_succ]
            rfl
          refine last_ (i := 11) (N := some 43) #[true,true,true,true,true,true,true,true,true,true,true,true,false] rfl rfl zk (by decide) (fun K hK => ?_)
          refine goes_ Try.func42 zk rfl #[.agg #[.slice (some ad) gaps.length c0], v41, .func (.func 43) #[] #[.pointer (some ⟨gb, 0, none⟩)]] (by rfl) rfl rfl (by (try simp only [List.map_toArray, List.map_cons, List.map_nil]); first | done | rfl) ?_
          refine (HE.out).mono ?_
          rintro e w9 ⟨rfl, w10, v, hb, hR, hw9⟩
          have HO := Aside0.mk (hR)
          have HW9 := Aside0.mk (hw9)
          have n_ := y2 (below_step HB.out hb) (blk_below BK.out hb)
          clear HB BK hb hR hw9 HE
          obtain ⟨HB, BK⟩ := n_
          refine ⟨_, rfl, ?_⟩
          refine hK.out _ _ ?_
          clear hK K
          refine norm_ (a' := ?_) ?_ ?_
          rotate_left
          · show Act.put _ (some 43) _ = _
            simp only [Act.put, List.setIfInBounds_toArray, List.set_cons_zero, List.set_cons_succ, i64_w, i32_w]
            rfl
          refine pure_ (i := 12) (N := some 44) (v := ?_) (a' := ?_) #[true,true,true,true,true,true,true,true,true,true,true,true,true] rfl rfl zk (fun _ _ _ h => h) (Or.inl ⟨by rfl, ?_⟩) ?_ ?_
          rotate_left; exact zp; rotate_left; exact zq
          refine done_ zk ?_
          have hv := HV.out
          have hw9 := HW9.out
          clear HV HW9 IH HM
          generalize restsT mt gs (l ++ [(r, g)]) = q at hv hw9 HO ⊢
          cases q with
          | none =>
            have HV := Aside0.mk (show firstT (fun r => l.all fun c => !mt c (r, g)) (fun r => restsT mt gs (l ++ [(r, g)])) (g - (r + 1)).toNat (r + 1) = R from hv)
            have hx9 : w9 = w10 := hw9
            clear hw9
            subst hx9
            clear hv
            simp only [Option.isSome_none]
            go_wp2
            go_roundg k1
            case measure => omega
            case rel => exact ⟨r + 1, by rw [HW.out], ⟨by have := H0.out; omega⟩, ⟨by have := HK.out; have := HR.out; omega⟩, HV, ⟨zG BK.out⟩, HB⟩
          | some q =>
            have hv : some q = R := hv
            subst hv
            have hx9 : w9 = w10.setCell ⟨gb, 0, none⟩ v := hw9
            clear hw9
            subst hx9
            simp only [Option.isSome_some]
            go_wp2
            go_ret
            exact ⟨rfl, _, HB.out, _, HO.out, rfl⟩
      · have hr1 : decide (r < g) = false := decide_eq_false hr
        have hv := HV.out
        rw [show (g - r).toNat = 0 by omega, firstT] at hv
        clear HV
        subst hv
        go_wp2
        go_ret
        exact ⟨rfl, HB.out, _, Kd.R_nil _ _ _ _ _⟩
end Go.Proofs.Ytnmpjikiodnmnaa.P
end
section
namespace Go.Proofs.Ytnmpjikiodnmnaa.P
open Go.RowKit Go.Proofs.YtnmpjikiodnmnaaW.PrintWords Go.Proofs.YtnmpjikiodnmnaaW.PrintLast Go.Proofs.YtnmpjikiodnmnaaW.PrintMore
attribute [local go_sem] max2_int min2_int max_two min_two max_three min_three max_four min_four   -- for this text's walks alone
set_option linter.unusedVariables false
set_option linter.unusedSimpArgs false
set_option maxHeartbeats 4000000 in
set_option maxRecDepth 100000 in
theorem fv_IndexFunc (g : Nat) (lb : Array Value) (eg : ∀ args w, (callFunc g args).run Try.prog w = .ok (.enter g args) w) (p : Int → Bool) (A0 : Option Addr) (c0 : Nat) (l0 : List Int) (w : World)
    (hr0 : Kd.C (Kd.int .i64) w A0 l0.length l0) (hc0 : l0.length ≤ c0)
    (hp : ∀ (W : World) (x : Int), Below w.heap.size w W → x ∈ l0 → Calls Try.prog g (#[.int .i64 x] ++ lb) W fun e w' => e = .returned (.bool (p x)) ∧ Below W.heap.size W w') :
    Calls Try.prog 55 #[.slice A0 l0.length c0, .func (.func g) #[] lb] w fun e w' => e = .returned (.int .i64 (idxF p l0)) ∧ Below w.heap.size w w' := by
  have H : idxL p l0 (l0.length + 1) 0 = some (idxF p l0) := idxL_at p l0 hr0.2.1 l0.length 0 (by omega) (by simp)
  generalize idxF p l0 = r at H ⊢
  have HR0 := Aside0.mk hr0
  have HC0 := Aside0.mk hc0
  have HP := Aside0.mk hp
  clear hr0 hc0 hp
  have H' := Aside0.mk H
  clear H
  have HB := Aside0.mk (Below.refl w.heap.size w)
  go_enter Try.func55, Try.ntmps55
  go_wp2
  go_loopg [5, 8] (l0.length + 1) (fun kq v5 v8 w' => ∃ x8 : Int, v8 = .int .i64 x8 ∧ Aside0 (idxL p l0 kq x8 = some r) ∧ Aside0 (0 ≤ x8) ∧ Aside0 (Below w.heap.size w w'))
  case atStart => exact ⟨0, rfl, H', ⟨by omega⟩, HB⟩
  case round =>
    clear H' HB
    obtain ⟨x8, rfl, HA, H0, HB⟩ := hrel
    cases gk with
    | zero => exact absurd HA.out (by simp [idxL])
    | succ k1 =>
      have H := HA.out
      clear HA
      simp only [idxL] at H
      by_cases c3 : x8 < (l0.length : Int)
      · rw [if_pos c3] at H
        obtain ⟨ad, e1, hx⟩ := Kd.at_int HR0.out x8 H0.out c3
        cases e1
        have hcell := pw_cell_below HB.out hx
        clear hx
        have hcall := HP.out _ (rd l0 x8) HB.out (rd_mem H0.out c3)
        have c3b := decide_eq_true c3
        have c0b := eq_true H0.out
        have c3c := eq_true c3
        have HM : Aside0 (x8 < 9223372036854775807) := ⟨by have := HR0.out.2.1; omega⟩
        clear c3
        generalize rd l0 x8 = y at H hcell hcall
        cases hq : p y with
        | true =>
          rw [hq, if_pos rfl] at H
          rw [hq] at hcall
          obtain rfl := Option.some.inj H
          clear H hq
          have HQ := Aside0.mk hcall
          clear hcall
          go_wp2_with (go_at_fn g; refine HQ.out.mono ?_; rintro e w' ⟨rfl, hb1⟩)
          go_ret
          exact ⟨rfl, below_step HB.out hb1⟩
        | false =>
          rw [hq, if_neg (by simp)] at H
          rw [hq] at hcall
          have H' := Aside0.mk H
          clear H hq
          have HQ := Aside0.mk hcall
          clear hcall
          go_wp2_with (go_at_fn g; refine HQ.out.mono ?_; rintro e w' ⟨rfl, hb1⟩)
          go_roundg k1
          case measure => omega
          case rel => exact ⟨(wrap64 (x8 + 1)), zF, H', ⟨by have h1 := HM.out; have h2 := H0.out; unfold wrap64; omega⟩, ⟨below_step HB.out hb1⟩⟩
      · rw [if_neg c3] at H
        obtain rfl := Option.some.inj H
        have c3b := decide_eq_false c3
        clear c3 H
        go_wp2
        go_ret
        exact ⟨rfl, HB.out⟩
set_option maxHeartbeats 4000000 in
theorem fv_ContainsFunc (g : Nat) (lb : Array Value) (eg : ∀ args w, (callFunc g args).run Try.prog w = .ok (.enter g args) w) (p : Int → Bool) (A0 : Option Addr) (c0 : Nat) (l0 : List Int) (w : World)
    (hr0 : Kd.C (Kd.int .i64) w A0 l0.length l0) (hc0 : l0.length ≤ c0)
    (hp : ∀ (W : World) (x : Int), Below w.heap.size w W → x ∈ l0 → Calls Try.prog g (#[.int .i64 x] ++ lb) W fun e w' => e = .returned (.bool (p x)) ∧ Below W.heap.size W w') :
    Calls Try.prog 45 #[.slice A0 l0.length c0, .func (.func g) #[] lb] w fun e w' => e = .returned (.bool (l0.any p)) ∧ Below w.heap.size w w' := by
  rw [← idxF_nonneg p l0]
  have HQ := Aside0.mk (fv_IndexFunc g lb eg p A0 c0 l0 w hr0 hc0 hp)
  clear hr0 hc0 hp
  go_enter Try.func45, Try.ntmps45
  go_wp2_with (go_at_call 55; refine HQ.out.mono ?_; rintro e w' ⟨rfl, hb1⟩)
  go_ret
  exact ⟨rfl, hb1⟩
set_option maxHeartbeats 4000000 in
theorem fv_areAll_1 (g : Nat) (lb : Array Value) (eg : ∀ args w, (callFunc g args).run Try.prog w = .ok (.enter g args) w) (p : Int → Bool) (B : Nat) (x : Int) (W : World)
    (hc : W.cell? ⟨B, 0, none⟩ = some (.func (.func g) #[] lb))
    (hp : Calls Try.prog g (#[.int .i64 x] ++ lb) W fun e w' => e = .returned (.bool (p x)) ∧ Below W.heap.size W w') :
    Calls Try.prog 46 #[.int .i64 x, .pointer (some ⟨B, 0, none⟩)] W fun e w' => e = .returned (.bool (!p x)) ∧ Below W.heap.size W w' := by
  have HQ := Aside0.mk hp
  clear hp
  generalize p x = b at HQ ⊢
  go_enter Try.func46, Try.ntmps46
  go_wp2_with (go_at_fn g; refine HQ.out.mono ?_; rintro e w' ⟨rfl, hb1⟩)
  go_ret
  exact ⟨rfl, hb1⟩
set_option maxHeartbeats 4000000 in
theorem fv_areAll (g : Nat) (lb : Array Value) (eg : ∀ args w, (callFunc g args).run Try.prog w = .ok (.enter g args) w) (p : Int → Bool) (A0 : Option Addr) (c0 : Nat) (l0 : List Int) (w : World)
    (hr0 : Kd.C (Kd.int .i64) w A0 l0.length l0) (hc0 : l0.length ≤ c0)
    (hp : ∀ (W : World) (x : Int), Below w.heap.size w W → x ∈ l0 → Calls Try.prog g (#[.int .i64 x] ++ lb) W fun e w' => e = .returned (.bool (p x)) ∧ Below W.heap.size W w') :
    Calls Try.prog 28 #[.slice A0 l0.length c0, .func (.func g) #[] lb] w fun e w' => e = .returned (.bool (l0.all p)) ∧ Below w.heap.size w w' := by
  rw [all_not_any p l0]
  have e1 : ∀ args w, (callFunc 46 args).run Try.prog w = .ok (.enter 46 args) w := enters_of Try.func46 zk rfl
  have hB : Below w.heap.size w (w.alloc (.cells #[.func (.func g) #[] lb] 48)) := below_alloc (Below.refl _ _) _
  have HQ := Aside0.mk (fv_ContainsFunc 46 #[.pointer (some ⟨w.heap.size, 0, none⟩)] e1 (fun x => !p x) A0 c0 l0 (w.alloc (.cells #[.func (.func g) #[] lb] 48)) (Kd.C_below hr0 hB) hc0
    (fun W x hb hx => fv_areAll_1 g lb eg p w.heap.size x W ((hb.cell (p := ⟨w.heap.size, 0, none⟩) (by simp)).trans (by simp)) (hp W x (below_step hB hb) hx)))
  have HB := Aside0.mk hB
  clear hr0 hc0 hp hB
  generalize (l0.any fun x => !p x) = b at HQ ⊢
  go_enter Try.func28, Try.ntmps28
  go_wp2_with (go_at_call 45; refine HQ.out.mono ?_; rintro e w' ⟨rfl, hb1⟩)
  go_ret
  exact ⟨rfl, below_step HB.out hb1⟩
end Go.Proofs.Ytnmpjikiodnmnaa.P
end
section
namespace Go.Proofs.Ytnmpjikiodnmnaa.P
open Go.RowKit Go.Proofs.YtnmpjikiodnmnaaW.PrintWords Go.Proofs.YtnmpjikiodnmnaaW.PrintLast Go.Proofs.YtnmpjikiodnmnaaW.PrintMore
attribute [local go_sem] max2_int min2_int max_two min_two max_three min_three max_four min_four   -- for this text's walks alone
set_option linter.unusedVariables false
set_option linter.unusedSimpArgs false
def impl_within.f (a0 : Int) (a1 : Int) (a2 : Int) : Option (Bool) := if a1 ≤ a0 then (some (decide (a0 ≤ a2))) else (some false)
set_option maxHeartbeats 8000000 in
set_option maxRecDepth 100000 in
theorem impl_within.calls (a0 : Int) (a1 : Int) (a2 : Int) (r : Bool) (w : World) (h : impl_within.f a0 a1 a2 = some r) :
    Calls Try.prog 26 #[.int .i64 a0, .int .i64 a1, .int .i64 a2] w fun e w' => e = .returned (.bool r) ∧ Drawn0 w w' := by
 have H : (if a1 ≤ a0 then (some (decide (a0 ≤ a2))) else (some false)) = some r := h
 clear h
 by_cases c4 : a1 ≤ a0
 ·
  rw [if_pos c4] at H
  have c4b0 : decide (a1 ≤ a0) = true := decide_eq_true c4
  clear c4
  obtain rfl := Option.some.inj H
  go_enter Try.func26, Try.ntmps26
  go_wp2
  go_ret
  exact ⟨by first | rfl | (simp; done) | (simp [*]; done), by repeat (first | exact Drawn0.refl _ | apply Drawn0.step)⟩
 rw [if_neg c4] at H
 have c4b0 : decide (a1 ≤ a0) = false := decide_eq_false c4
 clear c4
 obtain rfl := Option.some.inj H
 go_enter Try.func26, Try.ntmps26
 go_wp2
 go_ret
 exact ⟨by first | rfl | (simp; done) | (simp [*]; done), by repeat (first | exact Drawn0.refl _ | apply Drawn0.step)⟩
end Go.Proofs.Ytnmpjikiodnmnaa.P
end
section
namespace Go.Proofs.Ytnmpjikiodnmnaa.P
open Go.RowKit Go.Proofs.YtnmpjikiodnmnaaW.PrintWords Go.Proofs.YtnmpjikiodnmnaaW.PrintLast Go.Proofs.YtnmpjikiodnmnaaW.PrintMore
attribute [local go_sem] max2_int min2_int max_two min_two max_three min_three max_four min_four   -- for this text's walks alone
set_option linter.unusedVariables false
set_option linter.unusedSimpArgs false
theorem within_f (n lo hi : Int) : impl_within.f n lo hi = some (decide (lo ≤ n ∧ n ≤ hi)) := by
  unfold impl_within.f
  by_cases h : lo ≤ n
  · rw [if_pos h]; simp [h]
  · rw [if_neg h]; simp [h]
theorem within_yes {n lo hi : Int} (h : lo ≤ n ∧ n ≤ hi) : impl_within.f n lo hi = some true := by rw [within_f, decide_eq_true h]
theorem within_not {n lo hi : Int} (h : ¬ (lo ≤ n ∧ n ≤ hi)) : impl_within.f n lo hi = some false := by rw [within_f, decide_eq_false h]
end Go.Proofs.Ytnmpjikiodnmnaa.P
end
section
namespace Go.Proofs.Ytnmpjikiodnmnaa.P
open Go.RowKit Go.Proofs.YtnmpjikiodnmnaaW.PrintWords Go.Proofs.YtnmpjikiodnmnaaW.PrintLast Go.Proofs.YtnmpjikiodnmnaaW.PrintMore
attribute [local go_sem] max2_int min2_int max_two min_two max_three min_three max_four min_four   -- for this text's walks alone
set_option linter.unusedVariables false
set_option linter.unusedSimpArgs false
def impl_length_int64.f (l0 : List Int) : Option (Int) := some (l0.length : Int)
set_option maxHeartbeats 8000000 in
set_option maxRecDepth 100000 in
theorem impl_length_int64.calls (A0 : Option Addr) (c0 : Nat) (l0 : List Int) (r : Int) (w : World) (hr0 : Kd.C (Kd.int .i64) w A0 l0.length l0) (hc0 : l0.length ≤ c0) (h : impl_length_int64.f l0 = some r) :
    Calls Try.prog 27 #[.slice A0 l0.length c0] w fun e w' => e = .returned (.int .i64 r) ∧ Drawn0 w w' := by
 have HR0 := Aside0.mk hr0
 have HC0 := Aside0.mk hc0
 clear hr0 hc0
 have H : (some (l0.length : Int)) = some r := h
 clear h
 obtain rfl := Option.some.inj H
 go_enter Try.func27, Try.ntmps27
 go_wp2
 go_ret
 exact ⟨by first | rfl | (simp; done) | (simp [*]; done), by repeat (first | exact Drawn0.refl _ | apply Drawn0.step)⟩
end Go.Proofs.Ytnmpjikiodnmnaa.P
end
section
namespace Go.Proofs.Ytnmpjikiodnmnaa.P
open Go.RowKit Go.Proofs.YtnmpjikiodnmnaaW.PrintWords Go.Proofs.YtnmpjikiodnmnaaW.PrintLast Go.Proofs.YtnmpjikiodnmnaaW.PrintMore
attribute [local go_sem] max2_int min2_int max_two min_two max_three min_three max_four min_four   -- for this text's walks alone
set_option linter.unusedVariables false
set_option linter.unusedSimpArgs false
def impl_IsTasks.f (l0_0 : List Int) : Option Bool := some (decide (1 ≤ (l0_0.length : Int) ∧ (l0_0.length : Int) ≤ 8) && l0_0.all fun g => decide (1 ≤ g ∧ g ≤ 40))
theorem fv_IsTasks_1 (x : Int) (W : World) :
    Calls Try.prog 61 (#[.int .i64 x] ++ #[]) W fun e w' => e = .returned (.bool (decide (1 ≤ x ∧ x ≤ 40))) ∧ Below W.heap.size W w' := by
  have HQ := Aside0.mk (impl_within.calls x 1 40 _ W (within_f x 1 40))
  generalize decide (1 ≤ x ∧ x ≤ 40) = b at HQ ⊢
  show Calls Try.prog 61 #[.int .i64 x] W _
  go_enter Try.func61, Try.ntmps61
  go_wp2_with (go_at_call 26; refine HQ.out.mono ?_; rintro e w' ⟨rfl, hb1⟩)
  go_ret
  exact ⟨rfl, hb1.below⟩
set_option maxHeartbeats 4000000 in
set_option maxRecDepth 100000 in
theorem impl_IsTasks.calls (A0_0 : Option Addr) (c0_0 : Nat) (l0_0 : List Int) (r : Bool) (w : World) (hr0_0 : Kd.C (Kd.int .i64) w A0_0 l0_0.length l0_0) (hc0_0 : l0_0.length ≤ c0_0) (h : impl_IsTasks.f l0_0 = some r) :
    Calls Try.prog 52 #[.agg #[.slice A0_0 l0_0.length c0_0]] w fun e w' => e = .returned (.bool r) ∧ Below w.heap.size w w' := by
  have hu := Try.underlying38
  obtain rfl := Option.some.inj h
  clear h
  have e1 : ∀ args w, (callFunc 61 args).run Try.prog w = .ok (.enter 61 args) w := enters_of Try.func61 zk rfl
  have HQ := Aside0.mk (fun (W : World) (hb : Below w.heap.size w W) => fv_areAll 61 #[] e1 (fun g => decide (1 ≤ g ∧ g ≤ 40)) A0_0 c0_0 l0_0 W (Kd.C_below hr0_0 hb) hc0_0 (fun W' x _ _ => fv_IsTasks_1 x W'))
  have HL := Aside0.mk (fun (W : World) (hb : Below w.heap.size w W) => impl_length_int64.calls A0_0 c0_0 l0_0 _ W (Kd.C_below hr0_0 hb) hc0_0 rfl)
  have HR := Aside0.mk hr0_0
  clear hr0_0 hc0_0 e1
  have HB := Aside0.mk (Below.refl w.heap.size w)
  generalize l0_0.all (fun g => decide (1 ≤ g ∧ g ≤ 40)) = b at HQ ⊢
  by_cases h1 : 1 ≤ (l0_0.length : Int) ∧ (l0_0.length : Int) ≤ 8
  · have HW := Aside0.mk (fun W => impl_within.calls (l0_0.length : Int) 1 8 _ W (within_yes h1))
    rw [decide_eq_true h1, Bool.true_and]
    clear h1
    go_enter Try.func52, Try.ntmps52
    go_wp2_with (first
      | (go_at_call 27; refine (HL.out _ (by repeat (first | exact HB.out | apply below_alloc | apply pw_below_drewN | apply below_drew1))).mono ?_; rintro e w' ⟨rfl, ⟨n1, rfl⟩⟩)
      | (go_at_call 26; refine (HW.out _).mono ?_; rintro e w' ⟨rfl, ⟨n2, rfl⟩⟩)
      | (go_at_call 28; refine (HQ.out _ (by repeat (first | exact HB.out | apply below_alloc | apply pw_below_drewN | apply below_drew1))).mono ?_; rintro e w' ⟨rfl, hb1⟩))
    go_ret
    exact ⟨rfl, below_step (by repeat (first | exact HB.out | apply below_alloc | apply pw_below_drewN | apply below_drew1)) hb1⟩
  · have HW := Aside0.mk (fun W => impl_within.calls (l0_0.length : Int) 1 8 _ W (within_not h1))
    rw [decide_eq_false h1, Bool.false_and]
    clear h1
    go_enter Try.func52, Try.ntmps52
    go_wp2_with (first
      | (go_at_call 27; refine (HL.out _ (by repeat (first | exact HB.out | apply below_alloc | apply pw_below_drewN | apply below_drew1))).mono ?_; rintro e w' ⟨rfl, ⟨n1, rfl⟩⟩)
      | (go_at_call 26; refine (HW.out _).mono ?_; rintro e w' ⟨rfl, ⟨n2, rfl⟩⟩))
    go_ret
    exact ⟨rfl, by repeat (first | exact HB.out | apply below_alloc | apply pw_below_drewN | apply below_drew1)⟩
end Go.Proofs.Ytnmpjikiodnmnaa.P
end
section
namespace Go.Proofs.Ytnmpjikiodnmnaa.P
open Go.RowKit Go.Proofs.YtnmpjikiodnmnaaW.PrintWords Go.Proofs.YtnmpjikiodnmnaaW.PrintLast Go.Proofs.YtnmpjikiodnmnaaW.PrintMore
attribute [local go_sem] max2_int min2_int max_two min_two max_three min_three max_four min_four   -- for this text's walks alone
set_option linter.unusedVariables false
set_option linter.unusedSimpArgs false
def impl_tasksCode.f (l0_0 : List Int) (a1 : Bool) : Option (Int) := (impl_IsTasks.f l0_0).bind fun t102 => (if t102 = true then (if a1 = true then (some 0) else (some 2)) else (some 1))
set_option maxHeartbeats 8000000 in
set_option maxRecDepth 100000 in
theorem impl_tasksCode.calls (A0_0 : Option Addr) (c0_0 : Nat) (l0_0 : List Int) (a1 : Bool) (r : Int) (w : World) (hr0_0 : Kd.C (Kd.int .i64) w A0_0 l0_0.length l0_0) (hc0_0 : l0_0.length ≤ c0_0) (h : impl_tasksCode.f l0_0 a1 = some r) :
    Calls Try.prog 40 #[.agg #[.slice A0_0 l0_0.length c0_0], .bool a1] w fun e w' => e = .returned (.int .i64 r) ∧ Below w.heap.size w w' := by
 have hu38 := Try.underlying38
 have HR0_0 := Aside0.mk hr0_0
 have HC0_0 := Aside0.mk hc0_0
 clear hr0_0 hc0_0
 have HB := Aside0.mk (Below.refl w.heap.size w)
 have H : ((impl_IsTasks.f l0_0).bind fun t102 => (if t102 = true then (if a1 = true then (some 0) else (some 2)) else (some 1))) = some r := h
 clear h
 replace H := Option.bind_eq_some_iff.mp H
 obtain ⟨t102, A30, H⟩ := H
 replace H : (if t102 = true then (if a1 = true then (some 0) else (some 2)) else (some 1)) = some r := H
 have A3 := Aside0.mk A30
 clear A30
 by_cases c4 : t102 = true
 ·
  subst c4
  have H1 : (if a1 = true then (some 0) else (some 2)) = some r := by rw [if_pos rfl] at H; exact H
  clear H
  have H := H1
  clear H1
  by_cases c5 : a1 = true
  ·
   subst c5
   have H1 : (some 0) = some r := by rw [if_pos rfl] at H; exact H
   clear H
   have H := H1
   clear H1
   obtain rfl := Option.some.inj H
   go_enter Try.func40, Try.ntmps40
   go_wp2_with (first | ((with_reducible refine gate_dst (N := 2) rfl ?_); refine box_event zr (N := 2) zr (cs := #[.slice A0_0 l0_0.length c0_0]) (t := 38) zg ?_; intro gb101 hg w6 hbox hb; have n_ := y4 (below_step (zB) hb) (hbox) ((zS hg : w.heap.size ≤ gb101)) ((zS hg : w.heap.size ≤ gb101)); clear HB; obtain ⟨HB, BK101, GW101, GE101⟩ := n_; clear hb hbox hg; have hcz7_0 := zc BK101.out; have hfz7_0 := blk_frozen BK101.out 0) | ((with_reducible refine gate_callee (f := 52) rfl ?_); refine goesL_ (some 7) rfl rfl Try.func52 zk rfl #[.agg #[.slice A0_0 l0_0.length c0_0]] rfl zA ?_; (with_reducible refine (impl_IsTasks.calls _ _ l0_0 true _ ?side1 ?side2 A3.out).mono ?_); (case side1 => exact zC (Kd.C_below HR0_0.out HB.out)); (case side2 => exact HC0_0.out); rintro e w8 ⟨rfl, hb⟩; refine ⟨_, rfl, ?_⟩; have n_ := y2 (zb BK101.out hb) (below_step (zB) hb); clear BK101 HB; obtain ⟨BK101, HB⟩ := n_; (try clear hb); (try clear hb2); (try clear hk); (try clear hi)))
   go_ret
   exact ⟨zE, zB⟩
  replace c5 := Bool.eq_false_iff.mpr c5
  subst c5
  have H1 : (some 2) = some r := by rw [if_neg (show ¬ (false = true) by decide)] at H; exact H
  clear H
  have H := H1
  clear H1
  obtain rfl := Option.some.inj H
  go_enter Try.func40, Try.ntmps40
  go_wp2_with (first | ((with_reducible refine gate_dst (N := 2) rfl ?_); refine box_event zr (N := 2) zr (cs := #[.slice A0_0 l0_0.length c0_0]) (t := 38) zg ?_; intro gb101 hg w9 hbox hb; have n_ := y4 (below_step (zB) hb) (hbox) ((zS hg : w.heap.size ≤ gb101)) ((zS hg : w.heap.size ≤ gb101)); clear HB; obtain ⟨HB, BK101, GW101, GE101⟩ := n_; clear hb hbox hg; have hcz10_0 := zc BK101.out; have hfz10_0 := blk_frozen BK101.out 0) | ((with_reducible refine gate_callee (f := 52) rfl ?_); refine goesL_ (some 7) rfl rfl Try.func52 zk rfl #[.agg #[.slice A0_0 l0_0.length c0_0]] rfl zA ?_; (with_reducible refine (impl_IsTasks.calls _ _ l0_0 true _ ?side1 ?side2 A3.out).mono ?_); (case side1 => exact zC (Kd.C_below HR0_0.out HB.out)); (case side2 => exact HC0_0.out); rintro e w11 ⟨rfl, hb⟩; refine ⟨_, rfl, ?_⟩; have n_ := y2 (zb BK101.out hb) (below_step (zB) hb); clear BK101 HB; obtain ⟨BK101, HB⟩ := n_; (try clear hb); (try clear hb2); (try clear hk); (try clear hi)))
  go_ret
  exact ⟨zE, zB⟩
 replace c4 := Bool.eq_false_iff.mpr c4
 subst c4
 have H1 : (some 1) = some r := by rw [if_neg (show ¬ (false = true) by decide)] at H; exact H
 clear H
 have H := H1
 clear H1
 obtain rfl := Option.some.inj H
 go_enter Try.func40, Try.ntmps40
 go_wp2_with (first | ((with_reducible refine gate_dst (N := 2) rfl ?_); refine box_event zr (N := 2) zr (cs := #[.slice A0_0 l0_0.length c0_0]) (t := 38) zg ?_; intro gb101 hg w12 hbox hb; have n_ := y4 (below_step (zB) hb) (hbox) ((zS hg : w.heap.size ≤ gb101)) ((zS hg : w.heap.size ≤ gb101)); clear HB; obtain ⟨HB, BK101, GW101, GE101⟩ := n_; clear hb hbox hg; have hcz13_0 := zc BK101.out; have hfz13_0 := blk_frozen BK101.out 0) | ((with_reducible refine gate_callee (f := 52) rfl ?_); refine goesL_ (some 7) rfl rfl Try.func52 zk rfl #[.agg #[.slice A0_0 l0_0.length c0_0]] rfl zA ?_; (with_reducible refine (impl_IsTasks.calls _ _ l0_0 false _ ?side1 ?side2 A3.out).mono ?_); (case side1 => exact zC (Kd.C_below HR0_0.out HB.out)); (case side2 => exact HC0_0.out); rintro e w14 ⟨rfl, hb⟩; refine ⟨_, rfl, ?_⟩; have n_ := y2 (zb BK101.out hb) (below_step (zB) hb); clear BK101 HB; obtain ⟨BK101, HB⟩ := n_; (try clear hb); (try clear hb2); (try clear hk); (try clear hi)))
 go_ret
 exact ⟨zE, zB⟩
end Go.Proofs.Ytnmpjikiodnmnaa.P
end
section
namespace Go.Proofs.Ytnmpjikiodnmnaa.P
open Go.RowKit Go.Proofs.YtnmpjikiodnmnaaW.PrintWords Go.Proofs.YtnmpjikiodnmnaaW.PrintLast Go.Proofs.YtnmpjikiodnmnaaW.PrintMore
attribute [local go_sem] max2_int min2_int max_two min_two max_three min_three max_four min_four   -- for this text's walks alone
set_option linter.unusedVariables false
set_option linter.unusedSimpArgs false
def impl_Tasks_many.f (l0_0 : List Int) : Option (Int) := (impl_length_int64.f l0_0).bind fun t102 => (some t102)
set_option maxHeartbeats 8000000 in
set_option maxRecDepth 100000 in
theorem impl_Tasks_many.calls (A0_0 : Option Addr) (c0_0 : Nat) (l0_0 : List Int) (r : Int) (w : World) (hr0_0 : Kd.C (Kd.int .i64) w A0_0 l0_0.length l0_0) (hc0_0 : l0_0.length ≤ c0_0) (h : impl_Tasks_many.f l0_0 = some r) :
    Calls Try.prog 41 #[.agg #[.slice A0_0 l0_0.length c0_0]] w fun e w' => e = .returned (.int .i64 r) ∧ Below w.heap.size w w' := by
 have hu38 := Try.underlying38
 have HR0_0 := Aside0.mk hr0_0
 have HC0_0 := Aside0.mk hc0_0
 clear hr0_0 hc0_0
 have HB := Aside0.mk (Below.refl w.heap.size w)
 have H : ((impl_length_int64.f l0_0).bind fun t102 => (some t102)) = some r := h
 clear h
 replace H := Option.bind_eq_some_iff.mp H
 obtain ⟨t102, A20, H⟩ := H
 replace H : (some t102) = some r := H
 have A2 := Aside0.mk A20
 clear A20
 obtain rfl := Option.some.inj H
 go_enter Try.func41, Try.ntmps41
 go_wp2_with (first | ((with_reducible refine gate_dst (N := 1) rfl ?_); refine box_event zr (N := 1) zr (cs := #[.slice A0_0 l0_0.length c0_0]) (t := 38) zg ?_; intro gb101 hg w3 hbox hb; have n_ := y4 (below_step (zB) hb) (hbox) ((zS hg : w.heap.size ≤ gb101)) ((zS hg : w.heap.size ≤ gb101)); clear HB; obtain ⟨HB, BK101, GW101, GE101⟩ := n_; clear hb hbox hg; have hcz4_0 := zc BK101.out; have hfz4_0 := blk_frozen BK101.out 0) | ((with_reducible refine gate_callee (f := 27) rfl ?_); refine goesL_ (some 5) rfl rfl Try.func27 zk rfl #[.slice A0_0 l0_0.length c0_0] rfl zA ?_; (with_reducible refine (impl_length_int64.calls _ _ l0_0 t102 _ ?side1 ?side2 A2.out).mono ?_); (case side1 => exact zC (Kd.C_below HR0_0.out HB.out)); (case side2 => exact HC0_0.out); rintro e w' ⟨rfl, ⟨nd, rfl⟩⟩; refine ⟨_, rfl, ?_⟩))
 go_ret
 exact ⟨zE, zB⟩
end Go.Proofs.Ytnmpjikiodnmnaa.P
end
section
namespace Go.Proofs.Ytnmpjikiodnmnaa.P
open Go.RowKit Go.Proofs.YtnmpjikiodnmnaaW.PrintWords Go.Proofs.YtnmpjikiodnmnaaW.PrintLast Go.Proofs.YtnmpjikiodnmnaaW.PrintMore
attribute [local go_sem] max2_int min2_int max_two min_two max_three min_three max_four min_four   -- for this text's walks alone
set_option linter.unusedVariables false
set_option linter.unusedSimpArgs false
theorem firstT_len {good : Int → Bool} {sub : Int → Option (List (Int × Int))} {m : Nat} (hs : ∀ r q, sub r = some q → q.length = m) : ∀ (d : Nat) (r : Int) (q : List (Int × Int)), firstT good sub d r = some q → q.length = m
  | 0, _, _, h => by simp [firstT] at h
  | d + 1, r, q, h => by
    rw [firstT] at h
    split at h
    · split at h
      · next x hx =>
        obtain rfl := Option.some.inj h
        exact hs _ _ hx
      · exact firstT_len hs d _ _ h
    · exact firstT_len hs d _ _ h
theorem restsT_len {mt : Int × Int → Int × Int → Bool} : ∀ (gs : List Int) (l q : List (Int × Int)), restsT mt gs l = some q → q.length = l.length + gs.length
  | [], l, q, h => by
    rw [restsT] at h
    obtain rfl := Option.some.inj h
    simp
  | g :: gs, l, q, h => by
    rw [restsT] at h
    refine firstT_len (fun r x hx => ?_) _ _ _ h
    have := restsT_len gs _ _ hx
    simp at this ⊢
    omega
def impl_FirstRests.f (mt : Int × Int → Int × Int → Bool) (l0 : List Int) : Option (List (Int × Int) × Int) :=
  (impl_tasksCode.f l0 true).bind fun t => if t = 0 then (impl_Tasks_many.f l0).bind fun n => (if n > 5 then some ([], 3) else (if 0 < l0.length then some (((restsT mt (l0.drop 1) [(0, rd l0 0)]).getD []), if (restsT mt (l0.drop 1) [(0, rd l0 0)]).isSome then 0 else 4) else none)) else some ([], t)
set_option maxHeartbeats 8000000 in
set_option maxRecDepth 100000 in
theorem impl_FirstRests.calls (ok : Int × Int → Prop) (mt : Int × Int → Int × Int → Bool) (hm : ∀ c l, ok c → (∀ d ∈ l, ok d) → ∃ k, impl_Class_isApart.f k c l = some (l.all fun d => !mt d c)) (A0 : Option Addr) (c0 : Nat) (l0 : List Int) (r1 : List (Int × Int)) (r2 : Int) (w : World) (hr0 : Kd.C (Kd.int .i64) w A0 l0.length l0) (hc0 : l0.length ≤ c0) (hok : impl_tasksCode.f l0 true = some 0 → (∀ g ∈ l0, ∀ r, 0 ≤ r → r < g → ok (r, g)) ∧ (∀ g ∈ l0, 0 < g ∧ g ≤ 9223372036854775807) ∧ l0.length ≤ 1000) (h : impl_FirstRests.f mt l0 = some (r1, r2)) :
    Calls Try.prog 16 #[.agg #[.slice A0 l0.length c0]] w fun e w' => ∃ v, e = .returned (.tuple #[v, .int .i64 r2]) ∧ Kd.R ckd 63 w' w.heap.size (fun _ => True) v r1 ∧ Below w.heap.size w w' := by
  have hu38 := Try.underlying38
  have HB := Aside0.mk (Below.refl w.heap.size w)
  unfold impl_FirstRests.f at h
  obtain ⟨t, e1, h⟩ := Option.bind_eq_some_iff.mp h
  have E1 := Aside0.mk (fun W (hb : Below w.heap.size w W) => impl_tasksCode.calls A0 c0 l0 true t W (Kd.C_below hr0 hb) hc0 e1)
  by_cases ht : t = 0
  · subst ht
    rw [if_pos rfl] at h
    obtain ⟨hok1, hok2, hok3⟩ := hok e1
    obtain ⟨n, e2, h⟩ := Option.bind_eq_some_iff.mp h
    have E2 := Aside0.mk (fun W (hb : Below w.heap.size w W) => impl_Tasks_many.calls A0 c0 l0 n W (Kd.C_below hr0 hb) hc0 e2)
    by_cases hn : n > 5
    · rw [if_pos hn] at h
      simp only [Option.some.injEq, Prod.mk.injEq] at h
      obtain ⟨rfl, rfl⟩ := h
      have hn1 : decide (n > 5) = true := decide_eq_true hn
      have hn2 : decide (5 < n) = true := decide_eq_true hn
      clear hr0 hc0 hok hok1 hok2 hok3 e1 e2 hm hn
      go_enter Try.func16, Try.ntmps16
      go_wp2_with (first | ((with_reducible refine gate_dst (N := 1) rfl ?_); refine box_event zr (N := 1) zr (cs := #[.slice A0 l0.length c0]) (t := 38) zg ?_; intro gb hg w1 hbox hb; have hq : w1.cell? ⟨gb, 0, none⟩ = some (.slice A0 l0.length c0) := zc hbox; have n_ := y2 (below_step HB.out hb) hbox; clear HB; obtain ⟨HB, BK⟩ := n_; clear hb hbox hg) | (go_at_call 40; refine (E1.out _ HB.out).mono ?_; rintro e w' ⟨rfl, hb⟩; have n_ := y2 (below_step HB.out hb) (blk_below BK.out hb); clear HB BK hb; obtain ⟨HB, BK⟩ := n_; have hq_ := zc BK.out) | (go_at_call 41; refine (E2.out _ HB.out).mono ?_; rintro e w' ⟨rfl, hb⟩; have n_ := y2 (below_step HB.out hb) (blk_below BK.out hb); clear HB BK hb; obtain ⟨HB, BK⟩ := n_; have hq_ := zc BK.out))
      go_ret2
      exact ⟨_, rfl, Kd.R_nil _ _ _ _ _, HB.out⟩
    · rw [if_neg hn] at h
      have hn1 : decide (n > 5) = false := decide_eq_false hn
      have hn2 : decide (5 < n) = false := decide_eq_false hn
      by_cases hl : 0 < l0.length
      · rw [if_pos hl] at h
        simp only [Option.some.injEq, Prod.mk.injEq] at h
        obtain ⟨rfl, rfl⟩ := h
        obtain ⟨ad, ea, hx⟩ := Kd.at_int hr0 0 (by omega) (by omega)
        subst ea
        have hgm : rd l0 0 ∈ l0 := by
          have : rd l0 0 = l0[0] := by simp [rd, hl]
          rw [this]
          exact List.getElem_mem hl
        have hg1 := (hok2 _ hgm).1
        have hg2 := hok1 _ hgm 0 (by omega) hg1
        have LEN := Aside0.mk (fun q (hq : restsT mt (l0.drop 1) [(0, rd l0 0)] = some q) => show 0 < q.length by rw [restsT_len _ _ _ hq]; simp; omega)
        have E4 := Aside0.mk (fun (W : World) (v : Value) (g5 : Nat) (hb : Below w.heap.size w W) (hv : Kd.R ckd 63 W w.heap.size (fun _ => True) v [(0, rd l0 0)]) (hbk : W.heap[g5]? = some (.cells #[.slice none 0 0] 35 (0, 0))) => impl_Tasks_rests.calls ok mt hm l0 (some ad) c0 w.heap.size g5 hok1 (fun g hg => (hok2 g hg).2) hok3 (l0.length - 1) [(0, rd l0 0)] v (.slice none 0 0) W (by simp; omega) (fun c hc => by rw [List.mem_singleton.1 hc]; exact hg2) hb.size (Kd.C_below hr0 hb) hc0 hv hbk)
        simp only [List.length_singleton] at E4
        have h0_ : ad.add (0 : Int).toNat = ad := by simp [Addr.add]
        rw [h0_] at hx
        have HX := Aside0.mk hx
        clear h0_
        have q1 := eq_true (show (0 : Int) < (l0.length : Int) by omega)
        have q2 := eq_true hl
        have hnil := fun (W : World) (a : Option Addr) (n c : Nat) => Lib.run_eql_slice_nil (P := Try.prog) W 35 63 a n c 0 0 Try.underlying35
        clear hr0 hc0 hok hok1 hok2 hok3 e1 e2 hm hn hgm hg1 hg2 hx hl
        generalize rd l0 0 = g at E4 HX LEN ⊢
        generalize restsT mt (l0.drop 1) [(0, g)] = q at E4 LEN ⊢
        go_enter Try.func16, Try.ntmps16
        go_wp2_with (first | ((with_reducible refine gate_dst (N := 1) rfl ?_); refine box_event zr (N := 1) zr (cs := #[.slice (some ad) l0.length c0]) (t := 38) zg ?_; intro gb hg w1 hbox hb; have hq : w1.cell? ⟨gb, 0, none⟩ = some (.slice (some ad) l0.length c0) := zc hbox; have n_ := y2 (below_step HB.out hb) hbox; clear HB; obtain ⟨HB, BK⟩ := n_; clear hb hbox hg) | (go_at_call 40; refine (E1.out _ HB.out).mono ?_; rintro e w' ⟨rfl, hb⟩; have n_ := y2 (below_step HB.out hb) (blk_below BK.out hb); clear HB BK hb; obtain ⟨HB, BK⟩ := n_; have hq_ := zc BK.out) | (go_at_call 41; refine (E2.out _ HB.out).mono ?_; rintro e w' ⟨rfl, hb⟩; have n_ := y2 (below_step HB.out hb) (blk_below BK.out hb); clear HB BK hb; obtain ⟨HB, BK⟩ := n_; have hq_ := zc BK.out) | ((with_reducible refine gate_dst (N := 5) rfl ?_); refine box_event zr (N := 5) zr (cs := #[.slice none 0 0]) (t := 35) zg ?_; intro g5 hg w3 hbox hb; have n_ := y4 (below_step HB.out hb) (blk_below BK.out hb) hbox (zS hg : w.heap.size ≤ g5); clear HB BK; obtain ⟨HB, BK, BK5, GE5⟩ := n_; clear hb hbox hg))
        have NE : gb ≠ g5 := blk_ne BK.out BK5.out (by decide)
        refine start_ (n := 9) (S := fun w' => w'.cell? ⟨gb, 0, none⟩ = some (.slice (some ad) l0.length c0) ∧ w'.cell? ad = some (.int .i64 g)) (ds := [8]) #[false,false,false,false,false,false,false,false,false] zk rfl rfl ⟨zc BK.out, pw_cell_below HB.out HX.out⟩ (fun hHeld => ?_)
        have n_ := y3 (below_drew1 HB.out) (blk_drew BK.out) (blk_drew BK5.out)
        clear HB BK BK5 NE
        obtain ⟨HB, BK, BK5⟩ := n_
        generalize w3.drew = wd at HB BK BK5 hHeld ⊢
        refine take_ (i := 0) (N := some 14) (v := ?_) (a' := ?_) #[true,false,false,false,false,false,false,false,false] rfl rfl zk (fun _ _ _ h => h) (Or.inl ⟨by rfl, ?_⟩) hHeld ?_ ?_
        rotate_left
        · rintro w' ⟨s0, s1⟩
          go_simp
          with_reducible rfl
        rotate_left
        exact zq
        refine pure_ (i := 1) (N := some 15) (v := ?_) (a' := ?_) #[true,true,false,false,false,false,false,false,false] rfl rfl zk (fun _ _ _ h => h) (Or.inl ⟨by rfl, ?_⟩) ?_ ?_
        rotate_left; exact zp; rotate_left; exact zq
        refine take_ (i := 2) (N := some 16) (v := ?_) (a' := ?_) #[true,true,true,false,false,false,false,false,false] rfl rfl zk (fun _ _ _ h => h) (Or.inl ⟨by rfl, ?_⟩) hHeld ?_ ?_
        rotate_left
        · rintro w' ⟨s0, s1⟩
          go_simp
          with_reducible rfl
        rotate_left
        exact zq
        refine pure_ (i := 3) (N := some 17) (v := ?_) (a' := ?_) #[true,true,true,true,false,false,false,false,false] rfl rfl zk (fun _ _ _ h => h) (Or.inl ⟨by rfl, ?_⟩) ?_ ?_
        rotate_left; exact zp; rotate_left; exact zq
        refine take_ (i := 4) (N := some 18) (v := ?_) (a' := ?_) #[true,true,true,true,true,false,false,false,false] rfl rfl zk (fun _ _ _ h => h) (Or.inl ⟨by rfl, ?_⟩) hHeld ?_ ?_
        rotate_left
        · rintro w' ⟨s0, s1⟩
          go_simp
          with_reducible rfl
        rotate_left
        exact zq
        refine pure_ (i := 5) (N := some 19) (v := ?_) (a' := ?_) #[true,true,true,true,true,true,false,false,false] rfl rfl zk (fun _ _ _ h => h) (Or.inl ⟨by rfl, ?_⟩) ?_ ?_
        rotate_left; exact zp; rotate_left; exact zq
        refine pure_ (i := 7) (N := some 21) (v := ?_) (a' := ?_) #[true,true,true,true,true,true,false,true,false] rfl rfl zk (fun _ _ _ h => h) (Or.inl ⟨by rfl, ?_⟩) ?_ ?_
        rotate_left; exact zp; rotate_left; exact zq
        refine one_ (i := 6) (N := some 20) #[true,true,true,true,true,true,true,true,false] rfl rfl zk (by decide) (fun K hK => ?_)
        refine Kd.R_lit_step ckd (w0 := wd) wd.heap.size 63 ?hg (N := 20) ?hd (xs := ([(0, g)] : List (Int × Int))) (inner := [.int .i64 0, .int .i64 g]) (ok := fun _ => True) (okp := fun _ => False) ?hr ?hp (fun _ hk => hk.elim) trivial (Below.refl _ _) (Nat.le_refl _) (by simp) ?_
        case hd => rfl
        case hg => rfl
        case hr => first | (go_simp; done) | (go_simp; rfl)
        case hp => exact row_lit (0, g)
        intro v20 w4 ho hb hg_ hnew_
        have hb4 := hb
        have HO := Aside0.mk (Kd.R_lower ho HB.out.size)
        have hS := Aside0.mk (hHeld)
        clear hHeld
        have n_ := y3 (below_step HB.out hb) (blk_below BK.out hb4) (blk_below BK5.out hb4)
        clear HB BK BK5 ho hb hg_ hnew_
        obtain ⟨HB, BK, BK5⟩ := n_
        refine hK.out _ _ ⟨(hb4.cell (World.block_lt_of_cell? _ _ hS.out.1)).trans hS.out.1, (hb4.cell (World.block_lt_of_cell? _ _ hS.out.2)).trans hS.out.2⟩ (fun hHeld => ?_)
        clear hK K hb4 hS
        refine norm_ (a' := ?_) ?_ ?_
        rotate_left
        · show Act.put _ (some 20) _ = _
          simp only [Act.put, List.setIfInBounds_toArray, List.set_cons_zero, List.set_cons_succ, i64_w, i32_w]
          rfl
        refine last_ (i := 8) (N := some 22) #[true,true,true,true,true,true,true,true,true] rfl rfl zk (by decide) (fun K hK => ?_)
        refine goes_ Try.func42 zk rfl #[.agg #[.slice (some ad) l0.length c0], v20, .func (.func 43) #[] #[.pointer (some ⟨g5, 0, none⟩)]] (by rfl) rfl rfl (by (try simp only [List.map_toArray, List.map_cons, List.map_nil]); first | done | rfl) ?_
        refine (E4.out w4 v20 g5 HB.out HO.out BK5.out).mono ?_
        rintro e w9 ⟨rfl, w10, v, hb, hR, hw9⟩
        have n_ := y3 (below_step HB.out hb) (blk_below BK5.out hb) hR
        have HW9 := Aside0.mk (hw9)
        clear HB BK BK5 HO hb hR hw9 E4 hHeld
        obtain ⟨HB, BK5, HO⟩ := n_
        refine ⟨_, rfl, ?_⟩
        refine hK.out _ _ ?_
        clear hK K
        refine norm_ (a' := ?_) ?_ ?_
        rotate_left
        · show Act.put _ (some 22) _ = _
          simp only [Act.put, List.setIfInBounds_toArray, List.set_cons_zero, List.set_cons_succ, i64_w, i32_w]
          rfl
        refine done_ zk ?_
        have hw9 := HW9.out
        clear HW9
        cases q with
        | none =>
          have hx9 : w9 = w10 := hw9
          clear hw9
          subst hx9
          have hc5 := zc BK5.out
          simp only [Option.isSome_none, Option.getD_none]
          go_wp2
          go_ret2
          exact ⟨_, rfl, Kd.R_nil _ _ _ _ _, HB.out⟩
        | some q =>
          have hx9 : w9 = w10.setCell ⟨g5, 0, none⟩ v := hw9
          clear hw9
          obtain ⟨gv, cap, eo, gb_, gl_, cells_, hcells_⟩ := Kd.R_form HO.out (LEN.out q rfl)
          have ev : v = .slice (some ⟨gv, 0, none⟩) q.length cap := eo
          clear eo gb_ gl_ hcells_ cells_
          subst ev
          have n_ := y3 (below_set HB.out GE5.out (j := 0) (v := .slice (some ⟨gv, 0, none⟩) q.length cap)) (blk_put (cs' := #[.slice (some ⟨gv, 0, none⟩) q.length cap]) BK5.out 0 (.slice (some ⟨gv, 0, none⟩) q.length cap) rfl) (Kd.R_set HO.out BK5.out (by intro q hq; simp [ckd, Kd.pair, Kd.int, Kd.scalar] at hq; omega) 0 (.slice (some ⟨gv, 0, none⟩) q.length cap))
          clear HB BK5 HO
          obtain ⟨HB, BK5, HO⟩ := n_
          rw [← hx9] at HB BK5 HO
          clear hx9
          have hc5 := zc BK5.out
          simp only [Option.isSome_some, Option.getD_some]
          go_wp2
          go_ret2
          exact ⟨_, rfl, HO.out, HB.out⟩
      · rw [if_neg hl] at h
        cases h
  · rw [if_neg ht] at h
    simp only [Option.some.injEq, Prod.mk.injEq] at h
    obtain ⟨rfl, rfl⟩ := h
    have ht1 : (t == 0) = false := beq_eq_false_iff_ne.mpr ht
    have ht2 : (t != 0) = true := bne_iff_ne.mpr ht
    clear hr0 hc0 hok e1 hm ht
    go_enter Try.func16, Try.ntmps16
    go_wp2_with (first | ((with_reducible refine gate_dst (N := 1) rfl ?_); refine box_event zr (N := 1) zr (cs := #[.slice A0 l0.length c0]) (t := 38) zg ?_; intro gb hg w1 hbox hb; have hq : w1.cell? ⟨gb, 0, none⟩ = some (.slice A0 l0.length c0) := zc hbox; have n_ := y2 (below_step HB.out hb) hbox; clear HB; obtain ⟨HB, BK⟩ := n_; clear hb hbox hg) | (go_at_call 40; refine (E1.out _ HB.out).mono ?_; rintro e w' ⟨rfl, hb⟩; have n_ := y2 (below_step HB.out hb) (blk_below BK.out hb); clear HB BK hb; obtain ⟨HB, BK⟩ := n_; have hq_ := zc BK.out))
    go_ret2
    exact ⟨_, rfl, Kd.R_nil _ _ _ _ _, HB.out⟩
end Go.Proofs.Ytnmpjikiodnmnaa.P
end
section
namespace Go.Proofs.Ytnmpjikiodnmnaa.P
open Go.RowKit Go.Proofs.YtnmpjikiodnmnaaW.PrintWords Go.Proofs.YtnmpjikiodnmnaaW.PrintLast Go.Proofs.YtnmpjikiodnmnaaW.PrintMore
attribute [local go_sem] max2_int min2_int max_two min_two max_three min_three max_four min_four   -- for this text's walks alone
set_option linter.unusedVariables false
set_option linter.unusedSimpArgs false
def laws_szInt64S.f (l0 : List Int) (a1 : Int) : Option (Int) := if (wrap64 (a1 - (l0.length : Int))) < 0 then (some (-1)) else (some (wrap64 (a1 - (l0.length : Int))))
set_option maxHeartbeats 8000000 in
set_option maxRecDepth 100000 in
theorem laws_szInt64S.calls (A0 : Option Addr) (c0 : Nat) (l0 : List Int) (a1 : Int) (r : Int) (w : World) (hr0 : Kd.C (Kd.int .i64) w A0 l0.length l0) (hc0 : l0.length ≤ c0) (h : laws_szInt64S.f l0 a1 = some r) :
    Calls Try.prog 35 #[.slice A0 l0.length c0, .int .i64 a1] w fun e w' => e = .returned (.int .i64 r) ∧ Drawn0 w w' := by
 have HR0 := Aside0.mk hr0
 have HC0 := Aside0.mk hc0
 clear hr0 hc0
 have H : (if (wrap64 (a1 - (l0.length : Int))) < 0 then (some (-1)) else (some (wrap64 (a1 - (l0.length : Int))))) = some r := h
 clear h
 by_cases c3 : (wrap64 (a1 - (l0.length : Int))) < 0
 ·
  rw [if_pos c3] at H
  have c3b0 : decide ((wrap64 (a1 - (l0.length : Int))) < 0) = true := decide_eq_true c3
  clear c3
  obtain rfl := Option.some.inj H
  go_enter Try.func35, Try.ntmps35
  go_wp2
  go_ret
  exact ⟨by first | rfl | (simp; done) | (simp [*]; done), by repeat (first | exact Drawn0.refl _ | apply Drawn0.step)⟩
 rw [if_neg c3] at H
 have c3b0 : decide ((wrap64 (a1 - (l0.length : Int))) < 0) = false := decide_eq_false c3
 clear c3
 obtain rfl := Option.some.inj H
 go_enter Try.func35, Try.ntmps35
 go_wp2
 go_ret
 exact ⟨by first | rfl | (simp; done) | (simp [*]; done), by repeat (first | exact Drawn0.refl _ | apply Drawn0.step)⟩
end Go.Proofs.Ytnmpjikiodnmnaa.P
end
section
namespace Go.Proofs.Ytnmpjikiodnmnaa.P
open Go.RowKit Go.Proofs.YtnmpjikiodnmnaaW.PrintWords Go.Proofs.YtnmpjikiodnmnaaW.PrintLast Go.Proofs.YtnmpjikiodnmnaaW.PrintMore
attribute [local go_sem] max2_int min2_int max_two min_two max_three min_three max_four min_four   -- for this text's walks alone
set_option linter.unusedVariables false
set_option linter.unusedSimpArgs false
def laws_szTasks.f (l0_0 : List Int) (a1 : Int) : Option (Int) := (laws_szInt64S.f l0_0 a1).bind fun t102 => (if t102 < 0 then (some (-1)) else (some t102))
set_option maxHeartbeats 8000000 in
set_option maxRecDepth 100000 in
theorem laws_szTasks.calls (A0_0 : Option Addr) (c0_0 : Nat) (l0_0 : List Int) (a1 : Int) (r : Int) (w : World) (hr0_0 : Kd.C (Kd.int .i64) w A0_0 l0_0.length l0_0) (hc0_0 : l0_0.length ≤ c0_0) (h : laws_szTasks.f l0_0 a1 = some r) :
    Calls Try.prog 13 #[.agg #[.slice A0_0 l0_0.length c0_0], .int .i64 a1] w fun e w' => e = .returned (.int .i64 r) ∧ Below w.heap.size w w' := by
 have hu33 := Try.underlying33
 have HR0_0 := Aside0.mk hr0_0
 have HC0_0 := Aside0.mk hc0_0
 clear hr0_0 hc0_0
 have HB := Aside0.mk (Below.refl w.heap.size w)
 have H : ((laws_szInt64S.f l0_0 a1).bind fun t102 => (if t102 < 0 then (some (-1)) else (some t102))) = some r := h
 clear h
 replace H := Option.bind_eq_some_iff.mp H
 obtain ⟨t102, A30, H⟩ := H
 replace H : (if t102 < 0 then (some (-1)) else (some t102)) = some r := H
 have A3 := Aside0.mk A30
 clear A30
 by_cases c4 : t102 < 0
 ·
  rw [if_pos c4] at H
  have c4b0 : decide (t102 < 0) = true := decide_eq_true c4
  clear c4
  obtain rfl := Option.some.inj H
  go_enter Try.func13, Try.ntmps13
  go_wp2_with (first | ((with_reducible refine gate_dst (N := 2) rfl ?_); refine box_event zr (N := 2) zr (cs := #[.slice A0_0 l0_0.length c0_0]) (t := 33) zg ?_; intro gb101 hg w5 hbox hb; have n_ := y4 (below_step (zB) hb) (hbox) ((zS hg : w.heap.size ≤ gb101)) ((zS hg : w.heap.size ≤ gb101)); clear HB; obtain ⟨HB, BK101, GW101, GE101⟩ := n_; clear hb hbox hg; have hcz6_0 := zc BK101.out; have hfz6_0 := blk_frozen BK101.out 0) | ((with_reducible refine gate_callee (f := 35) rfl ?_); refine goesL_ (some 8) rfl rfl Try.func35 zk rfl #[.slice A0_0 l0_0.length c0_0, .int .i64 a1] rfl zA ?_; (with_reducible refine (laws_szInt64S.calls _ _ l0_0 a1 t102 _ ?side1 ?side2 A3.out).mono ?_); (case side1 => exact zC (Kd.C_below HR0_0.out HB.out)); (case side2 => exact HC0_0.out); rintro e w' ⟨rfl, ⟨nd, rfl⟩⟩; refine ⟨_, rfl, ?_⟩))
  go_ret
  exact ⟨zE, zB⟩
 rw [if_neg c4] at H
 have c4b0 : decide (t102 < 0) = false := decide_eq_false c4
 clear c4
 obtain rfl := Option.some.inj H
 go_enter Try.func13, Try.ntmps13
 go_wp2_with (first | ((with_reducible refine gate_dst (N := 2) rfl ?_); refine box_event zr (N := 2) zr (cs := #[.slice A0_0 l0_0.length c0_0]) (t := 33) zg ?_; intro gb101 hg w7 hbox hb; have n_ := y4 (below_step (zB) hb) (hbox) ((zS hg : w.heap.size ≤ gb101)) ((zS hg : w.heap.size ≤ gb101)); clear HB; obtain ⟨HB, BK101, GW101, GE101⟩ := n_; clear hb hbox hg; have hcz8_0 := zc BK101.out; have hfz8_0 := blk_frozen BK101.out 0) | ((with_reducible refine gate_callee (f := 35) rfl ?_); refine goesL_ (some 8) rfl rfl Try.func35 zk rfl #[.slice A0_0 l0_0.length c0_0, .int .i64 a1] rfl zA ?_; (with_reducible refine (laws_szInt64S.calls _ _ l0_0 a1 t102 _ ?side1 ?side2 A3.out).mono ?_); (case side1 => exact zC (Kd.C_below HR0_0.out HB.out)); (case side2 => exact HC0_0.out); rintro e w' ⟨rfl, ⟨nd, rfl⟩⟩; refine ⟨_, rfl, ?_⟩))
 go_ret
 exact ⟨zE, zB⟩
end Go.Proofs.Ytnmpjikiodnmnaa.P
end
section
namespace Go.Proofs.Ytnmpjikiodnmnaa.P
open Go.RowKit Go.Proofs.YtnmpjikiodnmnaaW.PrintWords Go.Proofs.YtnmpjikiodnmnaaW.PrintLast Go.Proofs.YtnmpjikiodnmnaaW.PrintMore
attribute [local go_sem] max2_int min2_int max_two min_two max_three min_three max_four min_four   -- for this text's walks alone
set_option linter.unusedVariables false
set_option linter.unusedSimpArgs false
def laws_toInt64S.l0 : Nat → List Int → List Int → Int → Option (List Int)
  | 0, _, _, _ => none
  | k + 1, x0, x3, x4 => if x4 < (x0.length : Int) then (if 0 ≤ x4 then (if x4 < (x3.length : Int) then (laws_toInt64S.l0 k x0 (x3.set (x4 : Int).toNat (rd x0 x4)) (wrap64 (x4 + 1))) else (none)) else (none)) else (some x3)
def laws_toInt64S.f (k : Nat) (l0 : List Int) : Option (List Int) := if 0 ≤ (l0.length : Int) then (if ((l0.length : Int) : Int).toNat ≤ 35184372088832 then (laws_toInt64S.l0 k l0 (List.replicate ((l0.length : Int) : Int).toNat 0) 0) else (none)) else (none)
theorem laws_toInt64S.mono_l : ∀ k, (∀ y0 y1 y2, LeO (laws_toInt64S.l0 k y0 y1 y2) (laws_toInt64S.l0 (k + 1) y0 y1 y2))
  | 0 => fun _ _ _ r h => by simp [laws_toInt64S.l0] at h
  | k + 1 => by
    have ih0 := laws_toInt64S.mono_l k
    · intro y0 y1 y2
      unfold laws_toInt64S.l0
      repeat' first | (with_reducible exact ih0 _ _ _) | (with_reducible exact LeO.refl _) | (with_reducible exact LeO.none _) | (with_reducible refine LeO.ite ?_ ?_) | (with_reducible refine LeO.bind ?_ (fun _ => ?_)) | exact ih0 _ _ _ | exact LeO.none _ | refine LeO.ite ?_ ?_ | refine LeO.bind ?_ (fun _ => ?_)
theorem laws_toInt64S.mono : ∀ a0 k, LeO (laws_toInt64S.f k a0) (laws_toInt64S.f (k + 1) a0) := by
  intro a0 k
  have ih0 := laws_toInt64S.mono_l k
  unfold laws_toInt64S.f
  repeat' first | (with_reducible exact ih0 _ _ _) | (with_reducible exact LeO.refl _) | (with_reducible exact LeO.none _) | (with_reducible refine LeO.ite ?_ ?_) | (with_reducible refine LeO.bind ?_ (fun _ => ?_)) | exact ih0 _ _ _ | exact LeO.none _ | refine LeO.ite ?_ ?_ | refine LeO.bind ?_ (fun _ => ?_)
set_option maxHeartbeats 8000000 in
set_option maxRecDepth 100000 in
theorem laws_toInt64S.calls (k : Nat) (A0 : Option Addr) (c0 : Nat) (l0 : List Int) (r : List Int) (w : World) (hr0 : Kd.C (Kd.int .i64) w A0 l0.length l0) (hc0 : l0.length ≤ c0) (h : laws_toInt64S.f k l0 = some r) :
    Calls Try.prog 6 #[.slice A0 l0.length c0] w fun e w' => ∃ v0_ : Value, e = .returned (v0_) ∧ Kd.R (Kd.int .i64) 2 w' w.heap.size (fun _ => True) v0_ r ∧ Below w.heap.size w w' := by
 have HR0 := Aside0.mk hr0
 have HC0 := Aside0.mk hc0
 clear hr0 hc0
 have HB := Aside0.mk (Below.refl w.heap.size w)
 have H : (if 0 ≤ (l0.length : Int) then (if ((l0.length : Int) : Int).toNat ≤ 35184372088832 then (laws_toInt64S.l0 k l0 (List.replicate ((l0.length : Int) : Int).toNat 0) 0) else (none)) else (none)) = some r := h
 clear h
 by_cases c2 : 0 ≤ (l0.length : Int)
 case neg => rw [if_neg c2] at H; exact absurd H (by simp)
 rw [if_pos c2] at H
 have c2b0 := eq_true c2
 have c2b1 : decide (0 ≤ (l0.length : Int)) = true := decide_eq_true c2
 clear c2
 by_cases c3 : ((l0.length : Int) : Int).toNat ≤ 35184372088832
 case neg => rw [if_neg c3] at H; exact absurd H (by simp)
 rw [if_pos c3] at H
 have c3b0 := eq_true c3
 have c3b1 : decide (((l0.length : Int) : Int).toNat ≤ 35184372088832) = true := decide_eq_true c3
 clear c3
 obtain ⟨y101, hy101⟩ : ∃ y_ : List Int, y_ = (List.replicate ((l0.length : Int) : Int).toNat 0) := ⟨_, rfl⟩
 replace H : (laws_toInt64S.l0 k l0 y101 0) = some r := zH hy101
 have Ny101 := Aside0.mk hy101
 clear hy101
 have H' := Aside0.mk H
 clear H
 go_enter Try.func6, Try.ntmps6
 go_wp2_with (first | ((with_reducible refine gate_dst (N := 7) rfl ?_); refine Kd.R_make (Kd.int .i64) _ 2 rfl (N := 7) rfl 22 _ _ rfl (l0.length : Int) rfl rfl Try.underlying22 (.int .i64 0) 8 info2 rfl (by decide) (by omega) 0 (ok := fun _ => True) (okp := fun _ => True) rfl (fun _ hk => hk) trivial (zD) (Nat.le_trans (Nat.mul_le_mul_right _ (zD : (l0.length : Int).toNat ≤ 35184372088832)) (by omega)) (Below.refl _ _) (Nat.le_refl _) ?_; intro v102 w4 ho5 hb hg_ hnew_; clear hg_ hnew_; (first | rw [← Ny101.out] at ho5 | (simp only [Int.reduceToNat] at ho5; rw [← Ny101.out] at ho5)); have n_ := y2 (Kd.R_lower ho5 (below_size (zB))) (below_step (zB) hb); clear HB; obtain ⟨HO103, HB⟩ := n_; clear hb ho5))
 go_loopg [4] k (fun kq v4 w' => ∃ (x3_1 : List Int) (x4_1 : Int), v4 = .int .i64 x4_1 ∧ Aside0 (laws_toInt64S.l0 kq l0 x3_1 x4_1 = some r) ∧ Aside0 (kq ≤ k) ∧ Aside0 (Kd.R (Kd.int .i64) 2 w' w.heap.size (fun _ => True) v102 x3_1) ∧ Aside0 (Below w.heap.size w w'))
 case atStart => exact ⟨(y101), (0), zF, H', ⟨Nat.le_refl _⟩, ⟨zR HO103.out⟩, ⟨zB⟩⟩
 clear H'
 try clear c2
 try clear c2b0
 try clear c2b1
 try clear c3
 try clear c3b0
 try clear c3b1
 obtain ⟨x3_1, x4_1, rfl, HA, HK1, HO_3, HB⟩ := hrel
 cases gk with
 | zero => exact absurd HA.out (by simp [laws_toInt64S.l0])
 | succ k1 =>
   have H := HA.out
   clear HA
   simp only [laws_toInt64S.l0] at H
   by_cases c6 : x4_1 < (l0.length : Int)
   · rw [if_pos c6] at H
     have c6b0 : decide (x4_1 < (l0.length : Int)) = true := decide_eq_true c6
     clear c6
     by_cases c7 : 0 ≤ x4_1
     · rw [if_pos c7] at H
       have c7b0 : decide (0 ≤ x4_1) = true := decide_eq_true c7
       clear c7
       by_cases c8 : x4_1 < (x3_1.length : Int)
       · rw [if_pos c8] at H
         have c8b0 : decide (x4_1 < (x3_1.length : Int)) = true := decide_eq_true c8
         clear c8
         obtain ⟨y105, hy105⟩ : ∃ y_ : List Int, y_ = (x3_1.set (x4_1 : Int).toNat (rd l0 x4_1)) := ⟨_, rfl⟩
         replace H : (laws_toInt64S.l0 k1 l0 y105 (wrap64 (x4_1 + 1))) = some r := zH hy105
         have Ny105 := Aside0.mk hy105
         clear hy105
         have H' := Aside0.mk H
         clear H
         have p104 : 0 ≤ (x4_1 : Int) := zD
         have q104 : x4_1 < (l0.length : Int) := zD
         obtain ⟨ad104, e104, hx104_0⟩ := Kd.at_int HR0.out x4_1 p104 q104
         cases e104
         replace hx104_0 := (HB.out.cell (World.block_lt_of_cell? w _ hx104_0)).trans hx104_0
         replace p104 := eq_true p104
         replace q104 := eq_true q104
         have p9 : 0 ≤ (x4_1 : Int) := zD
         have q9 : (x4_1 : Int) < ((x3_1.length : Int) : Int) := zD
         obtain ⟨go9, co9, eo9, gb9, gl9, cl9, HG9⟩ := Kd.R_form HO_3.out (by omega)
         (first | cases eo9 | (injection eo9 with ea_ en_ ec_; (first | subst ea_ | (injection ea_ with ea_; subst ea_)); subst ec_; clear en_))
         have GB9 := Aside0.mk gb9
         have GG9 := Aside0.mk HG9
         clear gb9 gl9 HG9
         obtain ⟨hx9_0, hf9_0⟩ := Kd.R_celln 0 HO_3.out (x4_1 : Int) p9 q9
         replace p9 := eq_true p9
         replace q9 := eq_true q9
         have HP10 := Kd.R_putg HO_3.out (x4_1 : Int) (rd l0 x4_1)
         go_wp2_with (first | ((with_reducible refine gate_store (t := 2) (p := 20) rfl ?_); refine store_event (t := 2) (p := 20) (v := ?vo_w11) (w1 := (wr.setCell ⟨go9, (x4_1 : Int).toNat, none⟩ (.int .i64 (rd l0 x4_1)))) ?hg ?ho ?hn ?hr ?_; (case ho => rfl); (case hg => rfl); (case hn => rfl); (case hr => first | (go_simp; done) | (go_simp; rfl)); intro w11 hw; have hg : wr.grownBy w11 (some go9) := (by rw [hw]; exact HP10.2); have hp_ : Kd.R (Kd.int .i64) 2 w11 w.heap.size (fun _ => True) (.slice (some ⟨go9, 0, none⟩) x3_1.length co9) y105 := (by rw [hw, Ny105.out]; exact HP10.1); clear HP10; have n_ := y2 (hp_) ((by rw [hw]; exact below_set (HB.out) GB9.out : Below w.heap.size w w11)); clear HO_3 HB; obtain ⟨HO_3, HB⟩ := n_; clear hg hw hp_))
         go_roundg k1
         case measure => have := HK1.out; omega
         case rel => exact ⟨(y105), (wrap64 (x4_1 + 1)), zF, H', ⟨by have := HK1.out; omega⟩, ⟨zR HO_3.out⟩, ⟨zB⟩⟩
       · rw [if_neg c8] at H
         exact absurd H (by simp)
     · rw [if_neg c7] at H
       exact absurd H (by simp)
   · rw [if_neg c6] at H
     have c6b0 : decide (x4_1 < (l0.length : Int)) = false := decide_eq_false c6
     clear c6
     obtain rfl := Option.some.inj H
     go_wp2
     go_ret
     exact ⟨_, zE, zR HO_3.out, zB⟩
end Go.Proofs.Ytnmpjikiodnmnaa.P
end
section
namespace Go.Proofs.Ytnmpjikiodnmnaa.P
open Go.RowKit Go.Proofs.YtnmpjikiodnmnaaW.PrintWords Go.Proofs.YtnmpjikiodnmnaaW.PrintLast Go.Proofs.YtnmpjikiodnmnaaW.PrintMore
attribute [local go_sem] max2_int min2_int max_two min_two max_three min_three max_four min_four   -- for this text's walks alone
set_option linter.unusedVariables false
set_option linter.unusedSimpArgs false
def laws_toTasks.f (k : Nat) (l0_0 : List Int) : Option (List Int) := (laws_toInt64S.f k l0_0).bind fun t104 => (some t104)
theorem laws_toTasks.mono : ∀ a0 k, LeO (laws_toTasks.f k a0) (laws_toTasks.f (k + 1) a0) := by
  intro a0 k
  unfold laws_toTasks.f
  repeat' first | (with_reducible exact laws_toInt64S.mono _ _) | (with_reducible exact LeO.refl _) | (with_reducible exact LeO.none _) | (with_reducible refine LeO.ite ?_ ?_) | (with_reducible refine LeO.bind ?_ (fun _ => ?_)) | exact laws_toInt64S.mono _ _ | exact LeO.none _ | refine LeO.ite ?_ ?_ | refine LeO.bind ?_ (fun _ => ?_)
set_option maxHeartbeats 8000000 in
set_option maxRecDepth 100000 in
theorem laws_toTasks.calls (k : Nat) (A0_0 : Option Addr) (c0_0 : Nat) (l0_0 : List Int) (r : List Int) (w : World) (hr0_0 : Kd.C (Kd.int .i64) w A0_0 l0_0.length l0_0) (hc0_0 : l0_0.length ≤ c0_0) (h : laws_toTasks.f k l0_0 = some r) :
    Calls Try.prog 15 #[.agg #[.slice A0_0 l0_0.length c0_0]] w fun e w' => ∃ v0_ : Value, e = .returned (.agg #[v0_]) ∧ Kd.R (Kd.int .i64) 2 w' w.heap.size (fun _ => True) v0_ r ∧ Below w.heap.size w w' := by
 have hu33 := Try.underlying33
 have hu38 := Try.underlying38
 have HR0_0 := Aside0.mk hr0_0
 have HC0_0 := Aside0.mk hc0_0
 clear hr0_0 hc0_0
 have HB := Aside0.mk (Below.refl w.heap.size w)
 have H : ((laws_toInt64S.f k l0_0).bind fun t104 => (some t104)) = some r := h
 clear h
 replace H := Option.bind_eq_some_iff.mp H
 obtain ⟨t104, A20, H⟩ := H
 replace H : (some t104) = some r := H
 have A2 := Aside0.mk A20
 clear A20
 obtain rfl := Option.some.inj H
 go_enter Try.func15, Try.ntmps15
 go_wp2_with (first | ((with_reducible refine gate_dst (N := 1) rfl ?_); refine box_event zr (N := 1) zr (cs := #[.slice A0_0 l0_0.length c0_0]) (t := 33) zg ?_; intro gb101 hg w3 hbox hb; have n_ := y4 (below_step (zB) hb) (hbox) ((zS hg : w.heap.size ≤ gb101)) ((zS hg : w.heap.size ≤ gb101)); clear HB; obtain ⟨HB, BK101, GW101, GE101⟩ := n_; clear hb hbox hg) | ((with_reducible refine gate_dst (N := 2) rfl ?_); refine box_event zr (N := 2) zr (cs := #[.slice none 0 0]) (t := 38) zg ?_; intro gb102 hg w4 hbox hb; have n_ := y7 (zb BK101.out hb) (below_step (zB) hb) (hbox) ((zS hg : w.heap.size ≤ gb102)) ((zS hg : w.heap.size ≤ gb102)) ((zL hg BK101.out : gb101 ≠ gb102)) ((zM hg BK101.out : gb102 ≠ gb101)); clear BK101 HB; obtain ⟨BK101, HB, BK102, GW102, GE102, NB101_102, NB102_101⟩ := n_; clear hb hbox hg) | ((with_reducible refine gate_dst (N := 3) rfl ?_); refine box_event zr (N := 3) zr (cs := #[.slice none 0 0]) (t := 38) zg ?_; intro gb103 hg w5 hbox hb; have n_ := y10 (zb BK101.out hb) (zb BK102.out hb) (below_step (zB) hb) (hbox) ((zS hg : w.heap.size ≤ gb103)) ((zS hg : w.heap.size ≤ gb103)) ((zL hg BK101.out : gb101 ≠ gb103)) ((zM hg BK101.out : gb103 ≠ gb101)) ((zL hg BK102.out : gb102 ≠ gb103)) ((zM hg BK102.out : gb103 ≠ gb102)); clear BK101 BK102 HB; obtain ⟨BK101, BK102, HB, BK103, GW103, GE103, NB101_103, NB103_101, NB102_103, NB103_102⟩ := n_; clear hb hbox hg; have hnb6 := NB101_102.out; have hnc6 := NB102_101.out; have hnb7 := NB101_103.out; have hnc7 := NB103_101.out; have hcz8_0 := zc BK101.out; have hfz8_0 := blk_frozen BK101.out 0) | ((with_reducible refine gate_callee (f := 6) rfl ?_); refine goesL_ (some 6) rfl rfl Try.func6 zk rfl #[.slice A0_0 l0_0.length c0_0] rfl zA ?_; (with_reducible refine (laws_toInt64S.calls k _ _ l0_0 t104 _ ?side1 ?side2 A2.out).mono ?_); (case side1 => exact zC (Kd.C_below HR0_0.out HB.out)); (case side2 => exact HC0_0.out); rintro e w9 ⟨v105, rfl, ho0, hb⟩; refine ⟨_, rfl, ?_⟩; have n_ := y5 (Kd.R_lower ho0 (below_size (zB))) (zb BK101.out hb) (zb BK102.out hb) (zb BK103.out hb) (below_step (zB) hb); clear BK101 BK102 BK103 HB; obtain ⟨HO106, BK101, BK102, BK103, HB⟩ := n_; (try clear hb); (try clear hb2); (try clear hk); (try clear hi); (try clear ho0); obtain ⟨Ao10, co10, eo10⟩ := Kd.R_slice HO106.out; subst eo10; have hnb11 := NB103_102.out; have hnc11 := NB102_103.out; have hcz12_0 := zc BK103.out; have hfz12_0 := blk_frozen BK103.out 0; have hcz13_0 := zc BK102.out; have hfz13_0 := blk_frozen BK102.out 0))
 refine bodyPost_ret (results_cell_row rfl _ _ gb102 38 #[.slice Ao10 t104.length co10] (0, 0) _ rfl (by refine zG ?_; refine blk_put (cs := #[.slice none 0 0]) ?_ 0 _ rfl; refine zG ?_; refine blk_far ?_ NB102_103.out _; refine zG ?_; exact BK102.out) Try.underlying38 rfl zk) rfl ?_
 exact ⟨_, zE, by refine zR ?_; exact Kd.R_mono (Kd.R_far (p := ⟨gb102, 0, none⟩) (Kd.R_far (p := ⟨gb103, 0, none⟩) (Kd.R_types (Kd.R_types HO106.out BK103.out (by decide)) BK102.out (by decide)) (fun _ hk => hk.1.2) (.slice Ao10 t104.length co10)) (fun _ hk => hk.2) (.slice Ao10 t104.length co10)) (fun _ hk => trivial), zB⟩
end Go.Proofs.Ytnmpjikiodnmnaa.P
end
section
namespace Go.Proofs.Ytnmpjikiodnmnaa.P
open Go.RowKit Go.Proofs.YtnmpjikiodnmnaaW.PrintWords Go.Proofs.YtnmpjikiodnmnaaW.PrintLast Go.Proofs.YtnmpjikiodnmnaaW.PrintMore
attribute [local go_sem] max2_int min2_int max_two min_two max_three min_three max_four min_four   -- for this text's walks alone
set_option linter.unusedVariables false
set_option linter.unusedSimpArgs false
def laws_eqInt64S.l0 : Nat → List Int → List Int → Int → Option (Bool)
  | 0, _, _, _ => none
  | k + 1, x0, x1, x5 => if x5 < (x0.length : Int) then (if 0 ≤ x5 then (if x5 < (x1.length : Int) then (if (rd x0 x5) = (rd x1 x5) then (laws_eqInt64S.l0 k x0 x1 (wrap64 (x5 + 1))) else (some false)) else (none)) else (none)) else (some true)
def laws_eqInt64S.f (k : Nat) (l0 : List Int) (l1 : List Int) : Option (Bool) := if (l0.length : Int) = (l1.length : Int) then (laws_eqInt64S.l0 k l0 l1 0) else (some false)
theorem laws_eqInt64S.mono_l : ∀ k, (∀ y0 y1 y2, LeO (laws_eqInt64S.l0 k y0 y1 y2) (laws_eqInt64S.l0 (k + 1) y0 y1 y2))
  | 0 => fun _ _ _ r h => by simp [laws_eqInt64S.l0] at h
  | k + 1 => by
    have ih0 := laws_eqInt64S.mono_l k
    · intro y0 y1 y2
      unfold laws_eqInt64S.l0
      repeat' first | (with_reducible exact ih0 _ _ _) | (with_reducible exact LeO.refl _) | (with_reducible exact LeO.none _) | (with_reducible refine LeO.ite ?_ ?_) | (with_reducible refine LeO.bind ?_ (fun _ => ?_)) | exact ih0 _ _ _ | exact LeO.none _ | refine LeO.ite ?_ ?_ | refine LeO.bind ?_ (fun _ => ?_)
theorem laws_eqInt64S.mono : ∀ a0 a1 k, LeO (laws_eqInt64S.f k a0 a1) (laws_eqInt64S.f (k + 1) a0 a1) := by
  intro a0 a1 k
  have ih0 := laws_eqInt64S.mono_l k
  unfold laws_eqInt64S.f
  repeat' first | (with_reducible exact ih0 _ _ _) | (with_reducible exact LeO.refl _) | (with_reducible exact LeO.none _) | (with_reducible refine LeO.ite ?_ ?_) | (with_reducible refine LeO.bind ?_ (fun _ => ?_)) | exact ih0 _ _ _ | exact LeO.none _ | refine LeO.ite ?_ ?_ | refine LeO.bind ?_ (fun _ => ?_)
set_option maxHeartbeats 8000000 in
set_option maxRecDepth 100000 in
theorem laws_eqInt64S.calls (k : Nat) (A0 : Option Addr) (c0 : Nat) (l0 : List Int) (A1 : Option Addr) (c1 : Nat) (l1 : List Int) (r : Bool) (w : World) (hr0 : Kd.C (Kd.int .i64) w A0 l0.length l0) (hc0 : l0.length ≤ c0) (hr1 : Kd.C (Kd.int .i64) w A1 l1.length l1) (hc1 : l1.length ≤ c1) (h : laws_eqInt64S.f k l0 l1 = some r) :
    Calls Try.prog 9 #[.slice A0 l0.length c0, .slice A1 l1.length c1] w fun e w' => e = .returned (.bool r) ∧ Drawn0 w w' := by
 have HR0 := Aside0.mk hr0
 have HC0 := Aside0.mk hc0
 clear hr0 hc0
 have HR1 := Aside0.mk hr1
 have HC1 := Aside0.mk hc1
 clear hr1 hc1
 have H : (if (l0.length : Int) = (l1.length : Int) then (laws_eqInt64S.l0 k l0 l1 0) else (some false)) = some r := h
 clear h
 by_cases c3 : (l0.length : Int) = (l1.length : Int)
 ·
  rw [if_pos c3] at H
  have c3b0 : ((l0.length : Int) == (l1.length : Int)) = true := beq_iff_eq.mpr c3
  have c3b1 : ((l0.length : Int) != (l1.length : Int)) = false := bne_eq_false_iff_eq.mpr c3
  have c3b2 : (l0.length == l1.length) = true := by first | simpa using c3 | (simp at c3 ⊢; omega)
  clear c3
  have H' := Aside0.mk H
  clear H
  go_enter Try.func9, Try.ntmps9
  go_wp2
  repeat (go_quiet (fail); try go_wp2)
  go_loopg [5] k (fun kq v5 w' => ∃ (x5_1 : Int), v5 = .int .i64 x5_1 ∧ Aside0 (laws_eqInt64S.l0 kq l0 l1 x5_1 = some r) ∧ Aside0 (kq ≤ k) ∧ Drawn0 w w')
  case atStart => exact ⟨(0), zF, H', ⟨Nat.le_refl _⟩, by repeat (first | exact Drawn0.refl _ | apply Drawn0.step)⟩
  clear H'
  try clear c3
  try clear c3b0
  try clear c3b1
  try clear c3b2
  obtain ⟨x5_1, rfl, HA, HK1, ⟨m1, rfl⟩⟩ := hrel
  cases gk with
  | zero => exact absurd HA.out (by simp [laws_eqInt64S.l0])
  | succ k1 =>
    have H := HA.out
    clear HA
    simp only [laws_eqInt64S.l0] at H
    by_cases c4 : x5_1 < (l0.length : Int)
    · rw [if_pos c4] at H
      have c4b0 : decide (x5_1 < (l0.length : Int)) = true := decide_eq_true c4
      clear c4
      by_cases c5 : 0 ≤ x5_1
      · rw [if_pos c5] at H
        have c5b0 : decide (0 ≤ x5_1) = true := decide_eq_true c5
        clear c5
        by_cases c6 : x5_1 < (l1.length : Int)
        · rw [if_pos c6] at H
          have c6b0 : decide (x5_1 < (l1.length : Int)) = true := decide_eq_true c6
          clear c6
          by_cases c7 : (rd l0 x5_1) = (rd l1 x5_1)
          · rw [if_pos c7] at H
            have c7b0 : ((rd l0 x5_1) == (rd l1 x5_1)) = true := beq_iff_eq.mpr c7
            have c7b1 : ((rd l0 x5_1) != (rd l1 x5_1)) = false := bne_eq_false_iff_eq.mpr c7
            clear c7
            have H' := Aside0.mk H
            clear H
            have p101 : 0 ≤ (x5_1 : Int) := zD
            have q101 : x5_1 < (l0.length : Int) := zD
            obtain ⟨ad101, e101, hx101_0⟩ := Kd.at_int HR0.out x5_1 p101 q101
            cases e101
            replace p101 := eq_true p101
            replace q101 := eq_true q101
            have p102 : 0 ≤ (x5_1 : Int) := zD
            have q102 : x5_1 < (l1.length : Int) := zD
            obtain ⟨ad102, e102, hx102_0⟩ := Kd.at_int HR1.out x5_1 p102 q102
            cases e102
            replace p102 := eq_true p102
            replace q102 := eq_true q102
            go_wp2
            repeat (go_quiet (fail); try go_wp2)
            go_roundg k1
            case measure => have := HK1.out; omega
            case rel => exact ⟨(wrap64 (x5_1 + 1)), zF, H', ⟨by have := HK1.out; omega⟩, by repeat (first | exact Drawn0.refl _ | apply Drawn0.step)⟩
          · rw [if_neg c7] at H
            have c7b0 : ((rd l0 x5_1) == (rd l1 x5_1)) = false := beq_eq_false_iff_ne.mpr c7
            have c7b1 : ((rd l0 x5_1) != (rd l1 x5_1)) = true := bne_iff_ne.mpr c7
            obtain rfl := Option.some.inj H
            have p101 : 0 ≤ (x5_1 : Int) := zD
            have q101 : x5_1 < (l0.length : Int) := zD
            obtain ⟨ad101, e101, hx101_0⟩ := Kd.at_int HR0.out x5_1 p101 q101
            cases e101
            replace p101 := eq_true p101
            replace q101 := eq_true q101
            have p102 : 0 ≤ (x5_1 : Int) := zD
            have q102 : x5_1 < (l1.length : Int) := zD
            obtain ⟨ad102, e102, hx102_0⟩ := Kd.at_int HR1.out x5_1 p102 q102
            cases e102
            replace p102 := eq_true p102
            replace q102 := eq_true q102
            go_wp2
            repeat (go_quiet (fail); try go_wp2)
            go_ret
            exact ⟨by first | rfl | (simp; done) | (simp [*]; done), by repeat (first | exact Drawn0.refl _ | apply Drawn0.step)⟩
        · rw [if_neg c6] at H
          exact absurd H (by simp)
      · rw [if_neg c5] at H
        exact absurd H (by simp)
    · rw [if_neg c4] at H
      have c4b0 : decide (x5_1 < (l0.length : Int)) = false := decide_eq_false c4
      clear c4
      obtain rfl := Option.some.inj H
      go_wp2
      repeat (go_quiet (fail); try go_wp2)
      go_ret
      exact ⟨by first | rfl | (simp; done) | (simp [*]; done), by repeat (first | exact Drawn0.refl _ | apply Drawn0.step)⟩
 rw [if_neg c3] at H
 have c3b0 : ((l0.length : Int) == (l1.length : Int)) = false := beq_eq_false_iff_ne.mpr c3
 have c3b1 : ((l0.length : Int) != (l1.length : Int)) = true := bne_iff_ne.mpr c3
 have c3b2 : (l0.length == l1.length) = false := by first | simpa using c3 | (simp at c3 ⊢; omega)
 obtain rfl := Option.some.inj H
 go_enter Try.func9, Try.ntmps9
 go_wp2
 repeat (go_quiet (fail); try go_wp2)
 go_ret
 exact ⟨by first | rfl | (simp; done) | (simp [*]; done), by repeat (first | exact Drawn0.refl _ | apply Drawn0.step)⟩
end Go.Proofs.Ytnmpjikiodnmnaa.P
end
section
namespace Go.Proofs.Ytnmpjikiodnmnaa.P
open Go.RowKit Go.Proofs.YtnmpjikiodnmnaaW.PrintWords Go.Proofs.YtnmpjikiodnmnaaW.PrintLast Go.Proofs.YtnmpjikiodnmnaaW.PrintMore
attribute [local go_sem] max2_int min2_int max_two min_two max_three min_three max_four min_four   -- for this text's walks alone
set_option linter.unusedVariables false
set_option linter.unusedSimpArgs false
def laws_eqTasks.f (k : Nat) (l0_0 : List Int) (l1_0 : List Int) : Option (Bool) := (laws_eqInt64S.f k l0_0 l1_0).bind fun t103 => (if t103 = true then (some true) else (some false))
theorem laws_eqTasks.mono : ∀ a0 a1 k, LeO (laws_eqTasks.f k a0 a1) (laws_eqTasks.f (k + 1) a0 a1) := by
  intro a0 a1 k
  unfold laws_eqTasks.f
  repeat' first | (with_reducible exact laws_eqInt64S.mono _ _ _) | (with_reducible exact LeO.refl _) | (with_reducible exact LeO.none _) | (with_reducible refine LeO.ite ?_ ?_) | (with_reducible refine LeO.bind ?_ (fun _ => ?_)) | exact laws_eqInt64S.mono _ _ _ | exact LeO.none _ | refine LeO.ite ?_ ?_ | refine LeO.bind ?_ (fun _ => ?_)
set_option maxHeartbeats 8000000 in
set_option maxRecDepth 100000 in
theorem laws_eqTasks.calls (k : Nat) (A0_0 : Option Addr) (c0_0 : Nat) (l0_0 : List Int) (A1_0 : Option Addr) (c1_0 : Nat) (l1_0 : List Int) (r : Bool) (w : World) (hr0_0 : Kd.C (Kd.int .i64) w A0_0 l0_0.length l0_0) (hc0_0 : l0_0.length ≤ c0_0) (hr1_0 : Kd.C (Kd.int .i64) w A1_0 l1_0.length l1_0) (hc1_0 : l1_0.length ≤ c1_0) (h : laws_eqTasks.f k l0_0 l1_0 = some r) :
    Calls Try.prog 18 #[.agg #[.slice A0_0 l0_0.length c0_0], .agg #[.slice A1_0 l1_0.length c1_0]] w fun e w' => e = .returned (.bool r) ∧ Below w.heap.size w w' := by
 have hu38 := Try.underlying38
 have HR0_0 := Aside0.mk hr0_0
 have HC0_0 := Aside0.mk hc0_0
 clear hr0_0 hc0_0
 have HR1_0 := Aside0.mk hr1_0
 have HC1_0 := Aside0.mk hc1_0
 clear hr1_0 hc1_0
 have HB := Aside0.mk (Below.refl w.heap.size w)
 have H : ((laws_eqInt64S.f k l0_0 l1_0).bind fun t103 => (if t103 = true then (some true) else (some false))) = some r := h
 clear h
 replace H := Option.bind_eq_some_iff.mp H
 obtain ⟨t103, A30, H⟩ := H
 replace H : (if t103 = true then (some true) else (some false)) = some r := H
 have A3 := Aside0.mk A30
 clear A30
 by_cases c4 : t103 = true
 ·
  subst c4
  have H1 : (some true) = some r := by rw [if_pos rfl] at H; exact H
  clear H
  have H := H1
  clear H1
  obtain rfl := Option.some.inj H
  go_enter Try.func18, Try.ntmps18
  go_wp2_with (first | ((with_reducible refine gate_dst (N := 2) rfl ?_); refine box_event zr (N := 2) zr (cs := #[.slice A0_0 l0_0.length c0_0]) (t := 38) zg ?_; intro gb101 hg w5 hbox hb; have n_ := y4 (below_step (zB) hb) (hbox) ((zS hg : w.heap.size ≤ gb101)) ((zS hg : w.heap.size ≤ gb101)); clear HB; obtain ⟨HB, BK101, GW101, GE101⟩ := n_; clear hb hbox hg) | ((with_reducible refine gate_dst (N := 3) rfl ?_); refine box_event zr (N := 3) zr (cs := #[.slice A1_0 l1_0.length c1_0]) (t := 38) zg ?_; intro gb102 hg w6 hbox hb; have n_ := y7 (zb BK101.out hb) (below_step (zB) hb) (hbox) ((zS hg : w.heap.size ≤ gb102)) ((zS hg : w.heap.size ≤ gb102)) ((zL hg BK101.out : gb101 ≠ gb102)) ((zM hg BK101.out : gb102 ≠ gb101)); clear BK101 HB; obtain ⟨BK101, HB, BK102, GW102, GE102, NB101_102, NB102_101⟩ := n_; clear hb hbox hg; have hnb7 := NB101_102.out; have hnc7 := NB102_101.out; have hcz8_0 := zc BK101.out; have hfz8_0 := blk_frozen BK101.out 0; have hcz9_0 := zc BK102.out; have hfz9_0 := blk_frozen BK102.out 0) | ((with_reducible refine gate_callee (f := 9) rfl ?_); refine goesL_ (some 9) rfl rfl Try.func9 zk rfl #[.slice A0_0 l0_0.length c0_0, .slice A1_0 l1_0.length c1_0] rfl zA ?_; (with_reducible refine (laws_eqInt64S.calls k _ _ l0_0 _ _ l1_0 true _ ?side1 ?side2 ?side3 ?side4 A3.out).mono ?_); (case side1 => exact zC (Kd.C_below HR0_0.out HB.out)); (case side2 => exact HC0_0.out); (case side3 => exact zC (Kd.C_below HR1_0.out HB.out)); (case side4 => exact HC1_0.out); rintro e w' ⟨rfl, ⟨nd, rfl⟩⟩; refine ⟨_, rfl, ?_⟩))
  go_ret
  exact ⟨zE, zB⟩
 replace c4 := Bool.eq_false_iff.mpr c4
 subst c4
 have H1 : (some false) = some r := by rw [if_neg (show ¬ (false = true) by decide)] at H; exact H
 clear H
 have H := H1
 clear H1
 obtain rfl := Option.some.inj H
 go_enter Try.func18, Try.ntmps18
 go_wp2_with (first | ((with_reducible refine gate_dst (N := 2) rfl ?_); refine box_event zr (N := 2) zr (cs := #[.slice A0_0 l0_0.length c0_0]) (t := 38) zg ?_; intro gb101 hg w10 hbox hb; have n_ := y4 (below_step (zB) hb) (hbox) ((zS hg : w.heap.size ≤ gb101)) ((zS hg : w.heap.size ≤ gb101)); clear HB; obtain ⟨HB, BK101, GW101, GE101⟩ := n_; clear hb hbox hg) | ((with_reducible refine gate_dst (N := 3) rfl ?_); refine box_event zr (N := 3) zr (cs := #[.slice A1_0 l1_0.length c1_0]) (t := 38) zg ?_; intro gb102 hg w11 hbox hb; have n_ := y7 (zb BK101.out hb) (below_step (zB) hb) (hbox) ((zS hg : w.heap.size ≤ gb102)) ((zS hg : w.heap.size ≤ gb102)) ((zL hg BK101.out : gb101 ≠ gb102)) ((zM hg BK101.out : gb102 ≠ gb101)); clear BK101 HB; obtain ⟨BK101, HB, BK102, GW102, GE102, NB101_102, NB102_101⟩ := n_; clear hb hbox hg; have hnb12 := NB101_102.out; have hnc12 := NB102_101.out; have hcz13_0 := zc BK101.out; have hfz13_0 := blk_frozen BK101.out 0; have hcz14_0 := zc BK102.out; have hfz14_0 := blk_frozen BK102.out 0) | ((with_reducible refine gate_callee (f := 9) rfl ?_); refine goesL_ (some 9) rfl rfl Try.func9 zk rfl #[.slice A0_0 l0_0.length c0_0, .slice A1_0 l1_0.length c1_0] rfl zA ?_; (with_reducible refine (laws_eqInt64S.calls k _ _ l0_0 _ _ l1_0 false _ ?side1 ?side2 ?side3 ?side4 A3.out).mono ?_); (case side1 => exact zC (Kd.C_below HR0_0.out HB.out)); (case side2 => exact HC0_0.out); (case side3 => exact zC (Kd.C_below HR1_0.out HB.out)); (case side4 => exact HC1_0.out); rintro e w' ⟨rfl, ⟨nd, rfl⟩⟩; refine ⟨_, rfl, ?_⟩))
 go_ret
 exact ⟨zE, zB⟩
end Go.Proofs.Ytnmpjikiodnmnaa.P
end
section
namespace Go.Proofs.Ytnmpjikiodnmnaa.P
open Go.RowKit Go.Proofs.YtnmpjikiodnmnaaW.PrintWords Go.Proofs.YtnmpjikiodnmnaaW.PrintLast Go.Proofs.YtnmpjikiodnmnaaW.PrintMore
attribute [local go_sem] max2_int min2_int max_two min_two max_three min_three max_four min_four   -- for this text's walks alone
set_option linter.unusedVariables false
set_option linter.unusedSimpArgs false
def laws_markInt64S.l0 : Nat → List Int → Int → Int → Option (Int × List Int)
  | 0, _, _, _ => none
  | k + 1, x0, x1, x5 => if x5 < (x0.length : Int) then (if 0 ≤ x5 then (laws_markInt64S.l0 k (x0.set (x5 : Int).toNat x1) (wrap64 (x1 + 1)) (wrap64 (x5 + 1))) else (none)) else (some (x1, x0))
def laws_markInt64S.f (k : Nat) (l0 : List Int) (a1 : Int) : Option (Int × List Int) := laws_markInt64S.l0 k l0 a1 0
theorem laws_markInt64S.mono_l : ∀ k, (∀ y0 y1 y2, LeO (laws_markInt64S.l0 k y0 y1 y2) (laws_markInt64S.l0 (k + 1) y0 y1 y2))
  | 0 => fun _ _ _ r h => by simp [laws_markInt64S.l0] at h
  | k + 1 => by
    have ih0 := laws_markInt64S.mono_l k
    · intro y0 y1 y2
      unfold laws_markInt64S.l0
      repeat' first | (with_reducible exact ih0 _ _ _) | (with_reducible exact LeO.refl _) | (with_reducible exact LeO.none _) | (with_reducible refine LeO.ite ?_ ?_) | (with_reducible refine LeO.bind ?_ (fun _ => ?_)) | exact ih0 _ _ _ | exact LeO.none _ | refine LeO.ite ?_ ?_ | refine LeO.bind ?_ (fun _ => ?_)
theorem laws_markInt64S.mono : ∀ a0 a1 k, LeO (laws_markInt64S.f k a0 a1) (laws_markInt64S.f (k + 1) a0 a1) := by
  intro a0 a1 k
  have ih0 := laws_markInt64S.mono_l k
  unfold laws_markInt64S.f
  repeat' first | (with_reducible exact ih0 _ _ _) | (with_reducible exact LeO.refl _) | (with_reducible exact LeO.none _) | (with_reducible refine LeO.ite ?_ ?_) | (with_reducible refine LeO.bind ?_ (fun _ => ?_)) | exact ih0 _ _ _ | exact LeO.none _ | refine LeO.ite ?_ ?_ | refine LeO.bind ?_ (fun _ => ?_)
set_option maxHeartbeats 8000000 in
set_option maxRecDepth 100000 in
theorem laws_markInt64S.calls (k : Nat) (P0_ : Nat → Prop) (u9000_ : Value) (l0 : List Int) (a1 : Int) (r1 : Int) (r2 : List Int) (w0 w : World) (hB : Below w0.heap.size w0 w) (ho0 : Kd.R (Kd.int .i64) 2 w w0.heap.size P0_ u9000_ l0) (h : laws_markInt64S.f k l0 a1 = some (r1, r2)) :
    Calls Try.prog 10 #[u9000_, .int .i64 a1] w fun e w' => e = .returned (.int .i64 r1) ∧ Kd.R (Kd.int .i64) 2 w' w0.heap.size (fun k_ => (P0_ k_ ∨ w.heap.size ≤ k_)) u9000_ r2 ∧ Below w0.heap.size w0 w' ∧ Kept w w' (fun k_ => P0_ k_) := by
 have HO0 := Aside0.mk (show Kd.R (Kd.int .i64) 2 w w0.heap.size (fun k_ => (P0_ k_ ∨ w.heap.size ≤ k_)) u9000_ l0 from Kd.R_mono ho0 (fun k_ hk => (.inl hk)))
 have HK := Aside0.mk (Kept.refl w (fun k_ => P0_ k_))
 have HW0 := Aside0.mk hB.size
 have HB := Aside0.mk hB
 clear hB
 have H : (laws_markInt64S.l0 k l0 a1 0) = some (r1, r2) := h
 clear h
 have H' := Aside0.mk H
 clear H
 go_enter Try.func10, Try.ntmps10
 go_wp2
 go_loopg [1, 5] k (fun kq v1 v5 w' => ∃ (x0_1 : List Int) (x1_1 : Int) (x5_1 : Int), v1 = .int .i64 x1_1 ∧ v5 = .int .i64 x5_1 ∧ Aside0 (laws_markInt64S.l0 kq x0_1 x1_1 x5_1 = some (r1, r2)) ∧ Aside0 (kq ≤ k) ∧ Aside0 (Kd.R (Kd.int .i64) 2 w' w0.heap.size (fun k_ => (P0_ k_ ∨ w.heap.size ≤ k_)) u9000_ x0_1) ∧ Aside0 (Kept w w' (fun k_ => P0_ k_)) ∧ Aside0 (Below w0.heap.size w0 w'))
 case atStart => exact ⟨(l0), (a1), (0), zF, zF, H', ⟨Nat.le_refl _⟩, ⟨zR HO0.out⟩, ⟨zJ⟩, ⟨zB⟩⟩
 clear H'
 obtain ⟨x0_1, x1_1, x5_1, rfl, rfl, HA, HK1, HO_0, HK, HB⟩ := hrel
 cases gk with
 | zero => exact absurd HA.out (by simp [laws_markInt64S.l0])
 | succ k1 =>
   have H := HA.out
   clear HA
   simp only [laws_markInt64S.l0] at H
   by_cases c3 : x5_1 < (x0_1.length : Int)
   · rw [if_pos c3] at H
     have c3b0 : decide (x5_1 < (x0_1.length : Int)) = true := decide_eq_true c3
     clear c3
     by_cases c4 : 0 ≤ x5_1
     · rw [if_pos c4] at H
       have c4b0 : decide (0 ≤ x5_1) = true := decide_eq_true c4
       clear c4
       obtain ⟨y101, hy101⟩ : ∃ y_ : List Int, y_ = (x0_1.set (x5_1 : Int).toNat x1_1) := ⟨_, rfl⟩
       replace H : (laws_markInt64S.l0 k1 y101 (wrap64 (x1_1 + 1)) (wrap64 (x5_1 + 1))) = some (r1, r2) := zH hy101
       have Ny101 := Aside0.mk hy101
       clear hy101
       have H' := Aside0.mk H
       clear H
       obtain ⟨Ao6, co6, eo6⟩ := Kd.R_slice HO_0.out
       subst eo6
       have p5 : 0 ≤ (x5_1 : Int) := zD
       have q5 : (x5_1 : Int) < ((x0_1.length : Int) : Int) := zD
       obtain ⟨go5, co5, eo5, gb5, gl5, cl5, HG5⟩ := Kd.R_form HO_0.out (by omega)
       (first | cases eo5 | (injection eo5 with ea_ en_ ec_; (first | subst ea_ | (injection ea_ with ea_; subst ea_)); subst ec_; clear en_))
       have GB5 := Aside0.mk gb5
       have GG5 := Aside0.mk HG5
       clear gb5 gl5 HG5
       have HMgo5 := Aside0.mk (show (P0_ go5 ∨ w.heap.size ≤ go5) from (HO_0.out.1 _ rfl))
       obtain ⟨hx5_0, hf5_0⟩ := Kd.R_celln 0 HO_0.out (x5_1 : Int) p5 q5
       replace p5 := eq_true p5
       replace q5 := eq_true q5
       have HP7 := Kd.R_putg HO_0.out (x5_1 : Int) x1_1
       go_wp2_with (first | ((with_reducible refine gate_store (t := 2) (p := 15) rfl ?_); refine store_event (t := 2) (p := 15) (v := ?vo_w8) (w1 := (wr.setCell ⟨go5, (x5_1 : Int).toNat, none⟩ (.int .i64 x1_1))) ?hg ?ho ?hn ?hr ?_; (case ho => rfl); (case hg => rfl); (case hn => rfl); (case hr => first | (go_simp; done) | (go_simp; rfl)); intro w8 hw; have hg : wr.grownBy w8 (some go5) := (by rw [hw]; exact HP7.2); have hp_ : Kd.R (Kd.int .i64) 2 w8 w0.heap.size (fun k_ => (P0_ k_ ∨ w.heap.size ≤ k_)) (.slice (some ⟨go5, 0, none⟩) x0_1.length co6) y101 := (by rw [hw, Ny101.out]; exact HP7.1); clear HP7; have n_ := y3 (hp_) ((by rw [hw]; exact below_set (HB.out) GB5.out : Below w0.heap.size w0 w8)) (Kept.of_grown (S := (fun k_ => P0_ k_)) hg (zJ) (fun k_ e_ => (HO_0.out.1 k_ e_))); clear HO_0 HB HK; obtain ⟨HO_0, HB, HK⟩ := n_; clear hg hw hp_))
       go_roundg k1
       case measure => have := HK1.out; omega
       case rel => exact ⟨(y101), (wrap64 (x1_1 + 1)), (wrap64 (x5_1 + 1)), zF, zF, H', ⟨by have := HK1.out; omega⟩, ⟨zR HO_0.out⟩, ⟨zJ⟩, ⟨zB⟩⟩
     · rw [if_neg c4] at H
       exact absurd H (by simp)
   · rw [if_neg c3] at H
     have c3b0 : decide (x5_1 < (x0_1.length : Int)) = false := decide_eq_false c3
     clear c3
     simp only [Option.some.injEq, Prod.mk.injEq] at H
     obtain ⟨rfl, rfl⟩ := H
     obtain ⟨Ao9, co9, eo9⟩ := Kd.R_slice HO_0.out
     subst eo9
     go_wp2
     go_ret
     exact ⟨zE, zR HO_0.out, zB, zJ⟩
end Go.Proofs.Ytnmpjikiodnmnaa.P
end
section
namespace Go.Proofs.Ytnmpjikiodnmnaa.P
open Go.RowKit Go.Proofs.YtnmpjikiodnmnaaW.PrintWords Go.Proofs.YtnmpjikiodnmnaaW.PrintLast Go.Proofs.YtnmpjikiodnmnaaW.PrintMore
attribute [local go_sem] max2_int min2_int max_two min_two max_three min_three max_four min_four   -- for this text's walks alone
set_option linter.unusedVariables false
set_option linter.unusedSimpArgs false
def laws_markTasks.f (k : Nat) (l0_0 : List Int) (a1 : Int) : Option (Int × List Int) := (laws_markInt64S.f k l0_0 a1).bind fun bt102 => (some (bt102.1, bt102.2))
theorem laws_markTasks.mono : ∀ a0 a1 k, LeO (laws_markTasks.f k a0 a1) (laws_markTasks.f (k + 1) a0 a1) := by
  intro a0 a1 k
  unfold laws_markTasks.f
  repeat' first | (with_reducible exact laws_markInt64S.mono _ _ _) | (with_reducible exact LeO.refl _) | (with_reducible exact LeO.none _) | (with_reducible refine LeO.ite ?_ ?_) | (with_reducible refine LeO.bind ?_ (fun _ => ?_)) | exact laws_markInt64S.mono _ _ _ | exact LeO.none _ | refine LeO.ite ?_ ?_ | refine LeO.bind ?_ (fun _ => ?_)
set_option maxHeartbeats 8000000 in
set_option maxRecDepth 100000 in
theorem laws_markTasks.calls (k : Nat) (P0_0_ : Nat → Prop) (u9000_ : Value) (l0_0 : List Int) (a1 : Int) (r1 : Int) (r2 : List Int) (w0 w : World) (hB : Below w0.heap.size w0 w) (ho0_0 : Kd.R (Kd.int .i64) 2 w w0.heap.size P0_0_ u9000_ l0_0) (h : laws_markTasks.f k l0_0 a1 = some (r1, r2)) :
    Calls Try.prog 19 #[.agg #[u9000_], .int .i64 a1] w fun e w' => e = .returned (.int .i64 r1) ∧ Kd.R (Kd.int .i64) 2 w' w0.heap.size (fun k_ => (P0_0_ k_ ∨ w.heap.size ≤ k_)) u9000_ r2 ∧ Below w0.heap.size w0 w' ∧ Kept w w' (fun k_ => P0_0_ k_) := by
 have hu38 := Try.underlying38
 have HO0_0 := Aside0.mk (show Kd.R (Kd.int .i64) 2 w w0.heap.size (fun k_ => (P0_0_ k_ ∨ w.heap.size ≤ k_)) u9000_ l0_0 from Kd.R_mono ho0_0 (fun k_ hk => (.inl hk)))
 have HK := Aside0.mk (Kept.refl w (fun k_ => P0_0_ k_))
 have HW0 := Aside0.mk hB.size
 have HB := Aside0.mk hB
 clear hB
 have H : ((laws_markInt64S.f k l0_0 a1).bind fun bt102 => (some (bt102.1, bt102.2))) = some (r1, r2) := h
 clear h
 replace H := Option.bind_eq_some_iff.mp H
 obtain ⟨⟨t102, t103⟩, A30, H⟩ := H
 replace H : (some (t102, t103)) = some (r1, r2) := H
 have A3 := Aside0.mk A30
 clear A30
 simp only [Option.some.injEq, Prod.mk.injEq] at H
 obtain ⟨rfl, rfl⟩ := H
 obtain ⟨Ao4, co4, eo4⟩ := Kd.R_slice HO0_0.out
 subst eo4
 go_enter Try.func19, Try.ntmps19
 go_wp2_with (first | ((with_reducible refine gate_dst (N := 2) rfl ?_); refine box_event zr (N := 2) zr (cs := #[.slice Ao4 l0_0.length co4]) (t := 38) zg ?_; intro gb101 hg w5 hbox hb; have n_ := y6 (Kd.R_below (zR HO0_0.out) hb) (Kept.below (S := (fun k_ => P0_0_ k_)) (zJ) hb) (below_step (zB) hb) (hbox) ((by rw [hg]; exact (by first | exact HK.out.1 | exact (show Kept w _ (fun k_ => P0_0_ k_) from zJ).1) : w.heap.size ≤ gb101)) ((zS hg : w0.heap.size ≤ gb101)); clear HO0_0 HK HB; obtain ⟨HO0_0, HK, HB, BK101, GW101, GE101⟩ := n_; clear hb hbox hg; have hcz6_0 := zc BK101.out; have hfz6_0 := blk_frozen BK101.out 0) | ((with_reducible refine gate_callee (f := 10) rfl ?_); refine goesL_ (some 8) rfl rfl Try.func10 zk rfl #[.slice Ao4 l0_0.length co4, .int .i64 a1] rfl zA ?_; (with_reducible refine (laws_markInt64S.calls k (fun k_ => some k_ = (.slice Ao4 l0_0.length co4 : Value).ownBlock) (.slice Ao4 l0_0.length co4) l0_0 a1 t102 t103 w0 _ ?side1 ?side2 A3.out).mono ?_); (case side1 => exact zB); (case side2 => exact Kd.R_tight rfl HO0_0.out); rintro e w7 ⟨rfl, hy0, hb, hkp⟩; refine ⟨_, rfl, ?_⟩; have n_ := y4 (Kd.R_reok rfl hy0 (fun k_ e_ => HO0_0.out.1 k_ e_)) (blk_kept (zG BK101.out) hkp (fun hs_ => (fun e_ => (Kd.R_ne HO0_0.out BK101.out (by decide)) e_) hs_)) (Kept.then_ (S := (fun k_ => P0_0_ k_)) (zJ) hkp (fun k_ hs_ => (fun e_ => (HO0_0.out.1 k_ e_.symm)) hs_)) (hb); clear HO0_0 BK101 HK HB; obtain ⟨HO0_0, BK101, HK, HB⟩ := n_; (try clear hb); (try clear hkp); (try clear hy0)))
 go_ret
 exact ⟨zE, zR HO0_0.out, zB, zJ⟩
end Go.Proofs.Ytnmpjikiodnmnaa.P
end
section
namespace Go.Proofs.Ytnmpjikiodnmnaa.P
open Go.RowKit Go.Proofs.YtnmpjikiodnmnaaW.PrintWords Go.Proofs.YtnmpjikiodnmnaaW.PrintLast Go.Proofs.YtnmpjikiodnmnaaW.PrintMore
attribute [local go_sem] max2_int min2_int max_two min_two max_three min_three max_four min_four   -- for this text's walks alone
set_option linter.unusedVariables false
set_option linter.unusedSimpArgs false
def laws_FnExactFirstRests.f (mt : Int × Int → Int × Int → Bool) (k : Nat) (l : List Int) : Option Bool :=
  (laws_szTasks.f l 1048576).bind fun t => if t < 0 then some true else
  (laws_toTasks.f k l).bind fun x => if x = l then
  (spec_FirstRests.f mt k l).bind fun v => (impl_FirstRests.f mt l).bind fun g => if g = v then
  (laws_eqTasks.f k l l).bind fun b => if b = true then
  (laws_markTasks.f k l 1).bind fun m => if 0 ≤ m.1 then
  if 0 ≤ (markC 1 v.1).2 ∧ heldC (markC 1 v.1).1 1 = (markC 1 v.1).2 then some true
  else none else none else none else none else none
/-- THE ONE PURE STATEMENT. -/
def laws_FnExactFirstRests.Pure : Prop := ∃ (ok : Int × Int → Prop) (mt : Int × Int → Int × Int → Bool), (∀ c d, ok c → ok d → ∃ k, spec_l05Meet.f k c d = some (mt c d)) ∧ (∀ c l, ok c → (∀ d ∈ l, ok d) → ∃ k, impl_Class_isApart.f k c l = some (l.all fun d => !mt d c)) ∧ ∀ (l : List Int), okRow (okInt .i64) l → ∃ k, ((spec_l01Is.f k l = some true ∨ impl_tasksCode.f l true = some 0) → (∀ g ∈ l, ∀ r, 0 ≤ r → r < g → ok (r, g)) ∧ (∀ g ∈ l, 0 < g ∧ g ≤ 9223372036854775807) ∧ l.length ≤ 1000) ∧ laws_FnExactFirstRests.f mt k l = some true
set_option maxHeartbeats 16000000 in
set_option maxRecDepth 100000 in
theorem laws_FnExactFirstRests.walk (P : laws_FnExactFirstRests.Pure) (A0 : Option Addr) (c0 : Nat) (l : List Int) (w : World) (hr0 : Kd.C (Kd.int .i64) w A0 l.length l) (hc0 : l.length ≤ c0) (w0 : okRow (okInt .i64) l) :
    Calls Try.prog 4 #[.agg #[.slice A0 l.length c0]] w fun e w' => e = .returned (.bool true) ∧ Below w.heap.size w w' := by
  obtain ⟨ok, mt, hm1, hm2, P⟩ := P
  obtain ⟨k, hok, h⟩ := P l w0
  unfold laws_FnExactFirstRests.f at h
  have hu38 := Try.underlying38
  have huL := Try.underlying33
  have HB := Aside0.mk (Below.refl w.heap.size w)
  clear P w0
  obtain ⟨t, e1, h⟩ := Option.bind_eq_some_iff.mp h
  have E1 := Aside0.mk (fun W (hb : Below w.heap.size w W) => laws_szTasks.calls A0 c0 l 1048576 t W (Kd.C_below hr0 hb) hc0 e1)
  by_cases ct : t < 0
  · have d1 : decide (t < 0) = true := decide_eq_true ct
    clear h ct hr0 hc0 e1 hm1 hm2 hok
    go_enter Try.func4, Try.ntmps4
    go_wp2_with (first | ((with_reducible refine gate_dst (N := 1) rfl ?_); refine box_event zr (N := 1) zr (cs := #[.slice A0 l.length c0]) (t := 33) zg ?_; intro g1 hg wa hbox hb; have hz1 : wa.cell? ⟨g1, 0, none⟩ = some (.slice A0 l.length c0) := zc hbox; have n_ := y3 (below_step HB.out hb) (hbox) (zS hg : w.heap.size ≤ g1); clear HB; obtain ⟨HB, BT, GE1⟩ := n_; clear hb hbox hg) | (go_at_call 13; refine (E1.out _ HB.out).mono ?_; rintro e wa2 ⟨rfl, hb⟩; have n_ := y2 (below_step HB.out hb) (blk_below BT.out hb); clear HB BT; obtain ⟨HB, BT⟩ := n_; clear hb; have hz2 := zc BT.out))
    go_ret
    exact ⟨rfl, HB.out⟩
  · rw [if_neg ct] at h
    have d1 : decide (t < 0) = false := decide_eq_false ct
    obtain ⟨x, e2, h⟩ := Option.bind_eq_some_iff.mp h
    split at h
    · next ex =>
      subst ex
      obtain ⟨⟨c, er⟩, e3, h⟩ := Option.bind_eq_some_iff.mp h
      obtain ⟨g, e4, h⟩ := Option.bind_eq_some_iff.mp h
      split at h
      · next eg =>
        subst eg
        obtain ⟨b, e5, h⟩ := Option.bind_eq_some_iff.mp h
        split at h
        · next eb =>
          subst eb
          obtain ⟨⟨q1, xm⟩, e7, h⟩ := Option.bind_eq_some_iff.mp h
          split at h
          · next hq1 =>
            split at h
            · next hq =>
              obtain ⟨hq2, hq3⟩ := hq
              have E2 := Aside0.mk (fun W (hb : Below w.heap.size w W) => laws_toTasks.calls k A0 c0 x x W (Kd.C_below hr0 hb) hc0 e2)
              have E3 := Aside0.mk (fun A' c' W hC hc => spec_FirstRests.calls ok mt hm1 k A' c' x c er W hC hc (fun h => by obtain ⟨z1, z2, z3⟩ := hok (.inl h); exact ⟨z1, fun g hg => (z2 g hg).2, z3⟩) e3)
              have E4 := Aside0.mk (fun A' c' W hC hc => impl_FirstRests.calls ok mt hm2 A' c' x c er W hC hc (fun h => hok (.inr h)) e4)
              have E5 := Aside0.mk (fun Aa ca Ab cb W h1 h2 h3 h4 => laws_eqClassS.calls Aa ca c Ab cb c true W h1 h2 h3 h4 (by unfold laws_eqClassS.f; rw [decide_eq_true rfl]))
              have E6 := Aside0.mk (fun Aa ca Ab cb W h1 h2 h3 h4 => laws_eqTasks.calls k Aa ca x Ab cb x true W h1 h2 h3 h4 e5)
              have E7 := Aside0.mk e7
              have E9 := Aside0.mk hq3
              have E8 := Aside0.mk (show laws_markClassS.f c 1 = some ((markC 1 c).2, (markC 1 c).1) from rfl)
              generalize (markC 1 c).2 = q2 at hq2 E8 E9
              generalize (markC 1 c).1 = cm at E8 E9
              have hq1 : 0 ≤ q1 := hq1
              have hq2 : 0 ≤ q2 := hq2
              have d2 : decide (q1 < 0) = false := decide_eq_false (by omega)
              have d3 : decide (q2 < 0) = false := decide_eq_false (by omega)
              have T1 := Aside0.mk trivial
              have T2 := Aside0.mk trivial
              have T3 := Aside0.mk trivial
              have T4 := Aside0.mk trivial
              clear h ct hr0 hc0 e1 e2 e3 e4 e5 e7 hm1 hm2 hok hq1 hq2 hq3
              go_enter Try.func4, Try.ntmps4
              go_wp2_with (first | ((with_reducible refine gate_dst (N := 1) rfl ?_); refine box_event zr (N := 1) zr (cs := #[.slice A0 x.length c0]) (t := 33) zg ?_; intro g1 hg wa hbox hb; have hz1 : wa.cell? ⟨g1, 0, none⟩ = some (.slice A0 x.length c0) := zc hbox; have n_ := y3 (below_step HB.out hb) (hbox) (zS hg : w.heap.size ≤ g1); clear HB; obtain ⟨HB, BT, GE1⟩ := n_; clear hb hbox hg) | (go_at_call 13; refine (E1.out _ HB.out).mono ?_; rintro e wa2 ⟨rfl, hb⟩; have n_ := y2 (below_step HB.out hb) (blk_below BT.out hb); clear HB BT; obtain ⟨HB, BT⟩ := n_; clear hb; have hz2 := zc BT.out) | (go_at_call 15; clear T1; refine (E2.out _ HB.out).mono ?_; rintro e wa3 ⟨va, rfl, hS, hb⟩; obtain ⟨Aa, ca, rfl, hla, hCa⟩ := Kd.R_reads hS; have n_ := y4 (below_step HB.out hb) (blk_below BT.out hb) (hCa) (hla); clear HB BT; obtain ⟨HB, BT, HCA, HLA⟩ := n_; clear hb hS hCa hla) | (go_at_call 14; refine (E3.out Aa ca _ HCA.out HLA.out).mono ?_; rintro e wb ⟨vw, rfl, hS, hb⟩; obtain ⟨Aw, cw, rfl⟩ := Kd.R_slice hS; have n_ := y3 (Kd.R_mono (ok' := fun k_ => k_ < wb.heap.size) (Kd.R_lower (Kd.R_bound hS) (below_size HB.out)) (fun k_ hk => hk.2.2.1)) (below_step HB.out hb) (blk_below BT.out hb); clear HB BT; obtain ⟨HW, HB, BT⟩ := n_; have LB := Aside0.mk (blk_lt BT.out); clear hb hS HCA HLA; have hz4 := zc BT.out) | (go_at_call 15; clear T2; refine (E2.out _ HB.out).mono ?_; rintro e wc ⟨vx, rfl, hS, hb⟩; obtain ⟨Ax, cx, rfl⟩ := Kd.R_slice hS; have n_ := y4 (Kd.R_mono (ok' := fun k_ => wb.heap.size ≤ k_ ∧ k_ < wc.heap.size) (Kd.R_lower (Kd.R_bound hS) (below_size HB.out)) (fun k_ hk => ⟨hk.2.1, hk.2.2.1⟩)) (below_step HB.out hb) (blk_below BT.out hb) (Kd.R_kept HW.out (Kept.of_below hb (fun _ => False)) (fun _ _ h_ => h_)); clear HB BT HW; obtain ⟨HX, HB, BT, HW⟩ := n_; have LBC := Aside0.mk hb.size; clear hb hS) | ((with_reducible refine gate_dst (N := 6) rfl ?_); refine box_event zr (N := 6) zr (cs := #[.slice none 0 0]) (t := 38) zg ?_; intro g6 hg wd hbox hb; have hle6 : wc.heap.size ≤ g6 := Nat.le_of_eq hg.symm; have hnb : g6 ≠ g1 := (Nat.ne_of_lt (Nat.lt_of_lt_of_le (blk_lt BT.out) hle6)).symm; have hnc : g1 ≠ g6 := hnb.symm; have n_ := y8 (zS hg : w.heap.size ≤ g6) (below_step HB.out hb) (blk_below BT.out hb) (hbox) (Kd.R_below HW.out hb) (Kd.R_below HX.out hb) (hle6) (hnb); clear HB BT HW HX; obtain ⟨GE6, HB, BT, B6, HW, HX, L6, NB⟩ := n_; have LG6 := Aside0.mk (blk_lt B6.out); clear hb hbox hg hle6; have hz6 := zc B6.out; have hf6 := blk_frozen B6.out 0; have hz7 := zc BT.out) | (go_at_call 16; clear T3; have hs_ := Kd.R_set HX.out B6.out (by intro q hq; simp [Kd.int, Kd.scalar] at hq; omega) 0 (.slice Ax x.length cx); refine (E4.out Ax cx _ (Kd.R_reads' hs_).2.2 (Kd.R_reads' hs_).2.1).mono ?_; rintro e we ⟨vg, rfl, hS, hb⟩; obtain ⟨Ag, cg, rfl⟩ := Kd.R_slice hS; have n_ := y6 (Kd.R_mono (ok' := fun k_ => wd.heap.size ≤ k_ ∧ k_ < we.heap.size) (Kd.R_lower (Kd.R_bound hS) (below_size (below_set HB.out GE6.out (j := 0) (v := (.slice Ax x.length cx))))) (fun k_ hk => ⟨by have := hk.2.1; simpa using this, hk.2.2.1⟩)) (Kd.R_below hs_ hb) (Kd.R_below (Kd.R_set HW.out B6.out (by intro q hq; simp [ckd, Kd.pair, Kd.int, Kd.scalar] at hq; omega) 0 (.slice Ax x.length cx)) hb) (blk_below (blk_far BT.out (p := ⟨g6, 0, none⟩) NB.out.symm (.slice Ax x.length cx)) hb) (blk_below (blk_put (cs' := #[(.slice Ax x.length cx)]) B6.out 0 (.slice Ax x.length cx) rfl) hb) (below_step (below_set HB.out GE6.out (j := 0) (v := (.slice Ax x.length cx))) hb); clear HX HW BT B6 HB; obtain ⟨HG, HX, HW, BT, B6, HB⟩ := n_; have LCD := Aside0.mk (show wc.heap.size ≤ wd.heap.size from Nat.le_trans L6.out (Nat.le_of_lt (by have := LG6.out; exact this))); clear hb hS hs_ hz6 hf6 hz7 hnb hnc hz1 hz2 hz4) | (go_at_call 17; clear T4; refine (E5.out Ag cg Aw cw _ (Kd.R_reads' HG.out).2.2 (Kd.R_reads' HG.out).2.1 (Kd.R_reads' HW.out).2.2 (Kd.R_reads' HW.out).2.1).mono ?_; rintro e wf ⟨rfl, hb⟩; have n_ := y6 (below_step HB.out hb) (blk_below BT.out hb) (Kd.R_kept HW.out (Kept.of_below hb (fun _ => False)) (fun _ _ h_ => h_)) (Kd.R_kept HG.out (Kept.of_below hb (fun _ => False)) (fun _ _ h_ => h_)) (blk_below B6.out hb) (Kd.R_kept HX.out (Kept.of_below hb (fun _ => False)) (fun _ _ h_ => h_)); clear HB BT HW HG B6 HX; obtain ⟨HB, BT, HW, HG, B6, HX⟩ := n_; clear hb))
              have n_ := y2 (zc B6.out) (zc BT.out)
              obtain ⟨C6, CT⟩ := n_
              refine start_ (n := 5) (S := fun w' => w'.cell? ⟨g6, 0, none⟩ = some (.slice Ax x.length cx) ∧ w'.cell? ⟨g1, 0, none⟩ = some (.slice A0 x.length c0)) (ds := [3]) #[false,false,false,false,false] zk rfl rfl ⟨C6.out, CT.out⟩ (fun hHeld => ?_)
              have n_ := y6 (below_drew1 HB.out) (blk_drew BT.out) (blk_drew B6.out) (Kd.R_drew HW.out) (Kd.R_drew HX.out) (Kd.R_drew HG.out)
              clear HB BT B6 HW HX HG C6 CT
              obtain ⟨HB, BT, B6, HW, HX, HG⟩ := n_
              generalize wf.drew = wg at HB BT B6 HW HX HG hHeld ⊢
              refine take_ (i := 0) (N := some 41) (v := ?_) (a' := ?_) #[true,false,false,false,false] rfl rfl zk (fun _ _ _ h => h) (Or.inl ⟨by rfl, ?_⟩) hHeld ?_ ?_
              rotate_left
              · rintro w' ⟨s0, s1⟩
                go_simp
                with_reducible rfl
              rotate_left
              exact zq
              refine take_ (i := 1) (N := some 42) (v := ?_) (a' := ?_) #[true,true,false,false,false] rfl rfl zk (fun _ _ _ h => h) (Or.inl ⟨by rfl, ?_⟩) hHeld ?_ ?_
              rotate_left
              · rintro w' ⟨s0, s1⟩
                go_simp
                with_reducible rfl
              rotate_left
              exact zq
              refine one_ (i := 2) (N := some 43) #[true,true,true,false,false] rfl rfl zk (by decide) (fun K hK => ?_)
              refine goes_ Try.func15 zk rfl #[.agg #[.slice A0 x.length c0]] (by rfl) rfl rfl (by (try simp only [List.map_toArray, List.map_cons, List.map_nil]); first | done | rfl) ?_
              refine (E2.out _ HB.out).mono ?_
              rintro e wh ⟨vt, rfl, hS, hb⟩
              obtain ⟨At, ct, rfl, hlt, hCt⟩ := Kd.R_reads hS
              have hS_ := Aside0.mk hHeld
              clear hHeld
              have n_ := y8 (below_step HB.out hb) (blk_below BT.out hb) (blk_below B6.out hb) (Kd.R_kept HW.out (Kept.of_below hb (fun _ => False)) (fun _ _ h_ => h_)) (Kd.R_kept HX.out (Kept.of_below hb (fun _ => False)) (fun _ _ h_ => h_)) (Kd.R_kept HG.out (Kept.of_below hb (fun _ => False)) (fun _ _ h_ => h_)) (hCt) (hlt); clear HB BT B6 HW HX HG; obtain ⟨HB, BT, B6, HW, HX, HG, HCT, HLT⟩ := n_
              refine ⟨_, rfl, ?_⟩
              refine hK.out _ _ ⟨(hb.cell (World.block_lt_of_cell? _ _ hS_.out.1)).trans hS_.out.1, (hb.cell (World.block_lt_of_cell? _ _ hS_.out.2)).trans hS_.out.2⟩ (fun hHeld => ?_)
              clear hK K hb hS hCt hlt hS_
              refine norm_ (a' := ?_) ?_ ?_
              rotate_left
              · show Act.put _ (some 43) _ = _
                simp only [Act.put, List.setIfInBounds_toArray, List.set_cons_zero, List.set_cons_succ, i64_w, i32_w]
                rfl
              refine last_ (i := 3) (N := some 44) #[true,true,true,true,false] rfl rfl zk (by decide) (fun K hK => ?_)
              refine goes_ Try.func18 zk rfl #[.agg #[.slice Ax x.length cx], .agg #[.slice At x.length ct]] (by rfl) rfl rfl (by (try simp only [List.map_toArray, List.map_cons, List.map_nil]); first | done | rfl) ?_
              refine (E6.out Ax cx At ct _ (Kd.R_reads' HX.out).2.2 (Kd.R_reads' HX.out).2.1 HCT.out HLT.out).mono ?_
              rintro e wi ⟨rfl, hb⟩
              have n_ := y6 (below_step HB.out hb) (blk_below BT.out hb) (blk_below B6.out hb) (Kd.R_kept HW.out (Kept.of_below hb (fun _ => False)) (fun _ _ h_ => h_)) (Kd.R_kept HX.out (Kept.of_below hb (fun _ => False)) (fun _ _ h_ => h_)) (Kd.R_kept HG.out (Kept.of_below hb (fun _ => False)) (fun _ _ h_ => h_)); clear HB BT B6 HW HX HG; obtain ⟨HB, BT, B6, HW, HX, HG⟩ := n_
              refine ⟨_, rfl, ?_⟩
              refine hK.out _ _ ?_
              clear hK K hb HCT HLT hHeld
              refine norm_ (a' := ?_) ?_ ?_
              rotate_left
              · show Act.put _ (some 44) _ = _
                simp only [Act.put, List.setIfInBounds_toArray, List.set_cons_zero, List.set_cons_succ, i64_w, i32_w]
                rfl
              refine pure_ (i := 4) (N := some 45) (v := ?_) (a' := ?_) #[true,true,true,true,true] rfl rfl zk (fun _ _ _ h => h) (Or.inl ⟨by rfl, ?_⟩) ?_ ?_
              rotate_left; exact zp; rotate_left; exact zq
              refine done_ zk ?_
              have hz6 := zc B6.out
              have T5 := Aside0.mk trivial
              have T6 := Aside0.mk trivial
              have T7 := Aside0.mk trivial
              have T8 := Aside0.mk trivial
              have T9 := Aside0.mk trivial
              have T10 := Aside0.mk trivial
              go_wp2_with (first | (go_at_call 19; clear T5; refine (laws_markTasks.calls k (fun k_ => wb.heap.size ≤ k_ ∧ k_ < wc.heap.size) _ x 1 q1 xm w _ HB.out HX.out E7.out).mono ?_; rintro e wj ⟨rfl, hS, hb, hk⟩; have n_ := y4 (blk_kept BT.out hk (fun h_ => by have := LB.out; omega)) (Kd.R_kept HW.out hk (fun k_ h1_ h2_ => by omega)) (Kd.R_kept HG.out hk (fun k_ h1_ h2_ => by have := LCD.out; omega)) (hb); clear BT HW HG HB; obtain ⟨BT, HW, HG, HB⟩ := n_; clear hS hb hk HX B6 hz6 E7) | (go_at_call 17; clear T6; refine (E5.out Ag cg Aw cw _ (Kd.R_reads' HG.out).2.2 (Kd.R_reads' HG.out).2.1 (Kd.R_reads' HW.out).2.2 (Kd.R_reads' HW.out).2.1).mono ?_; rintro e wk ⟨rfl, hb⟩; have n_ := y4 (below_step HB.out hb) (blk_below BT.out hb) (Kd.R_kept HW.out (Kept.of_below hb (fun _ => False)) (fun _ _ h_ => h_)) (Kd.R_kept HG.out (Kept.of_below hb (fun _ => False)) (fun _ _ h_ => h_)); clear HB BT HW HG; obtain ⟨HB, BT, HW, HG⟩ := n_; clear hb) | (go_at_call 20; refine (laws_markClassS.calls (fun k_ => wd.heap.size ≤ k_ ∧ k_ < we.heap.size) _ c 1 q2 cm w _ HB.out HG.out E8.out).mono ?_; rintro e wl ⟨rfl, hS, hb, hk⟩; have n_ := y4 (blk_kept BT.out hk (fun h_ => by have := LB.out; have := LBC.out; have := LCD.out; omega)) (Kd.R_kept HW.out hk (fun k_ h1_ h2_ => by have := LBC.out; have := LCD.out; omega)) (hS) (hb); clear BT HW HG HB; obtain ⟨BT, HW, HG, HB⟩ := n_; clear hS hb hk E8) | (go_at_call 21; clear T7; have hh := fun W C => laws_heldClassS.calls Ag cg cm 1 q2 W C (by have := (Kd.R_reads' HG.out).1; have := (Kd.R_reads' HG.out).2.1; omega) (congrArg some E9.out); rw [← (Kd.R_reads' HG.out).1] at hh; refine (hh _ ((Kd.R_reads' HG.out).1 ▸ (Kd.R_reads' HG.out).2.2)).mono ?_; clear hh; rintro e wm ⟨rfl, hb⟩; have n_ := y4 (below_step HB.out hb) (blk_below BT.out hb) (Kd.R_kept HW.out (Kept.of_below hb (fun _ => False)) (fun _ _ h_ => h_)) (Kd.R_kept HG.out (Kept.of_below hb (fun _ => False)) (fun _ _ h_ => h_)); clear HB BT HW HG; obtain ⟨HB, BT, HW, HG⟩ := n_; clear hb; have hz8 := zc BT.out) | (go_at_call 15; clear T8; refine (E2.out _ HB.out).mono ?_; rintro e wn ⟨vs, rfl, hS, hb⟩; obtain ⟨As, cs, rfl, hls, hCs⟩ := Kd.R_reads hS; have n_ := y6 (below_step HB.out hb) (blk_below BT.out hb) (Kd.R_kept HW.out (Kept.of_below hb (fun _ => False)) (fun _ _ h_ => h_)) (Kd.R_kept HG.out (Kept.of_below hb (fun _ => False)) (fun _ _ h_ => h_)) (hCs) (hls); clear HB BT HW HG; obtain ⟨HB, BT, HW, HG, HCS, HLS⟩ := n_; clear hb hS hCs hls) | (go_at_call 16; refine (E4.out As cs _ HCS.out HLS.out).mono ?_; rintro e wo ⟨vh, rfl, hS, hb⟩; obtain ⟨Ah, ch, rfl, hlh, hCh⟩ := Kd.R_reads hS; have n_ := y6 (below_step HB.out hb) (blk_below BT.out hb) (Kd.R_kept HW.out (Kept.of_below hb (fun _ => False)) (fun _ _ h_ => h_)) (Kd.R_kept HG.out (Kept.of_below hb (fun _ => False)) (fun _ _ h_ => h_)) (hCh) (hlh); clear HB BT HW HG; obtain ⟨HB, BT, HW, HG, HCH, HLH⟩ := n_; clear hb hS hCh hlh HCS HLS) | (go_at_call 17; clear T9; refine (E5.out Ah ch Aw cw _ HCH.out HLH.out (Kd.R_reads' HW.out).2.2 (Kd.R_reads' HW.out).2.1).mono ?_; rintro e wp ⟨rfl, hb⟩; have n_ := y4 (below_step HB.out hb) (blk_below BT.out hb) (Kd.R_kept HW.out (Kept.of_below hb (fun _ => False)) (fun _ _ h_ => h_)) (Kd.R_kept HG.out (Kept.of_below hb (fun _ => False)) (fun _ _ h_ => h_)); clear HB BT HW HG; obtain ⟨HB, BT, HW, HG⟩ := n_; clear hb HCH HLH) | (go_at_call 21; clear T10; have hh := fun W C => laws_heldClassS.calls Ag cg cm 1 q2 W C (by have := (Kd.R_reads' HG.out).1; have := (Kd.R_reads' HG.out).2.1; omega) (congrArg some E9.out); rw [← (Kd.R_reads' HG.out).1] at hh; refine (hh _ ((Kd.R_reads' HG.out).1 ▸ (Kd.R_reads' HG.out).2.2)).mono ?_; clear hh; rintro e wq ⟨rfl, hb⟩; have n_ := y4 (below_step HB.out hb) (blk_below BT.out hb) (Kd.R_kept HW.out (Kept.of_below hb (fun _ => False)) (fun _ _ h_ => h_)) (Kd.R_kept HG.out (Kept.of_below hb (fun _ => False)) (fun _ _ h_ => h_)); clear HB BT HW HG; obtain ⟨HB, BT, HW, HG⟩ := n_; clear hb))
              go_ret
              exact ⟨rfl, HB.out⟩
            · exact absurd h (by simp)
          · exact absurd h (by simp)
        · exact absurd h (by simp)
      · exact absurd h (by simp)
    · exact absurd h (by simp)
end Go.Proofs.Ytnmpjikiodnmnaa.P
end
section
namespace Go.Proofs.Ytnmpjikiodnmnaa.Pure
open Go.RowKit Go.Proofs.Ytnmpjikiodnmnaa.P Go.Proofs.YtnmpjikiodnmnaaW.PrintWords Go.Proofs.YtnmpjikiodnmnaaW.PrintLast Go.Proofs.YtnmpjikiodnmnaaW.PrintMore
set_option linter.unusedVariables false
set_option linter.unusedSimpArgs false
theorem ev_pos {α : Type} {c : Prop} [Decidable c] {A B : Nat → Option α} {r : α} (h : c) (e : Ev A r) : Ev (fun n => if c then A n else B n) r := Ev.congr (fun n => if_pos h) e
theorem ev_neg {α : Type} {c : Prop} [Decidable c] {A B : Nat → Option α} {r : α} (h : ¬ c) (e : Ev B r) : Ev (fun n => if c then A n else B n) r := Ev.congr (fun n => if_neg h) e
theorem ev_now {α : Type} (r : α) : Ev (fun _ => some r) r := Ev.now r
theorem ev_is {α : Type} {g : Option α} {r : α} (h : g = some r) : Ev (fun _ => g) r := by subst h; exact Ev.now r
theorem ev_bind {α β : Type} {g : Nat → Option α} {f : Nat → α → Option β} {a : α} {r : β} (h : Ev g a) (k : Ev (fun n => f n a) r) : Ev (fun n => (g n).bind (f n)) r := Ev.bind h k
theorem ev_fix {α β : Type} {g : Option α} {f : Nat → α → Option β} {a : α} {r : β} (h : g = some a) (k : Ev (fun n => f n a) r) : Ev (fun n => g.bind (f n)) r := by subst h; exact k
theorem ev_rounds {α : Type} {g : Nat → Option α} {r : α} (h : Ev g r) : ∃ k, g k = some r := h.rounds
theorem wrap_id {x : Int} (h1 : -9223372036854775808 ≤ x) (h2 : x ≤ 9223372036854775807) : wrap64 x = x := by unfold wrap64; omega
theorem wrap_succ {n : Nat} (h : n + 1 ≤ 9223372036854775807) : wrap64 ((n : Int) + 1) = ((n + 1 : Nat) : Int) := by rw [wrap_id (by omega) (by omega)]; omega
theorem rd_nat {l : List Int} {n : Nat} (h : n < l.length) : rd l (n : Int) = l[n] := by simp [rd, h]
theorem wrap_nat {n : Nat} (h : n ≤ 9223372036854775807) : wrap64 (n : Int) = n := wrap_id (by omega) (by omega)
end Go.Proofs.Ytnmpjikiodnmnaa.Pure
end
section
namespace Go.Proofs.Ytnmpjikiodnmnaa.Pure
open Go.RowKit Go.Proofs.Ytnmpjikiodnmnaa.P Go.Proofs.YtnmpjikiodnmnaaW.PrintWords Go.Proofs.YtnmpjikiodnmnaaW.PrintLast Go.Proofs.YtnmpjikiodnmnaaW.PrintMore
set_option linter.unusedVariables false
set_option linter.unusedSimpArgs false
theorem tdiv_nat (m n : Nat) : Int.tdiv (m : Int) (n : Int) = ((m / n : Nat) : Int) := rfl
theorem tmod_nat' (m n : Nat) : Int.tmod (m : Int) (n : Int) = ((m % n : Nat) : Int) := rfl
theorem gcd_step (a b : Nat) (h : b ≠ 0) : Nat.gcd a b = Nat.gcd b (a % b) := by
  rw [Nat.gcd_comm a b, Nat.gcd_rec b a, Nat.gcd_comm]
theorem divisor_l0 : ∀ (b a : Nat), Ev (fun k => impl_divisor.l0 k (a : Int) (b : Int)) ((Nat.gcd a b : Nat) : Int) := by
  intro b
  induction b using Nat.strongRecOn with
  | _ b ih =>
    intro a
    refine Ev.step (fun k => by rw [impl_divisor.l0]) ?_
    by_cases h : b = 0
    · subst h
      refine ev_pos rfl ?_
      rw [Nat.gcd_zero_right]
      exact ev_now _
    · refine ev_neg (by omega) ?_
      rw [tmod_nat', gcd_step a b h]
      exact ih (a % b) (Nat.mod_lt _ (by omega)) b
theorem divisor_ev (a b : Nat) : Ev (fun k => impl_divisor.f k (a : Int) (b : Int)) ((Nat.gcd a b : Nat) : Int) := by
  unfold impl_divisor.f
  exact divisor_l0 b a
theorem l01Gcd_l0 : ∀ (b a : Nat), Ev (fun k => spec_l01Gcd.l0 k (a : Int) (b : Int)) ((Nat.gcd a b : Nat) : Int) := by
  intro b
  induction b using Nat.strongRecOn with
  | _ b ih =>
    intro a
    refine Ev.step (fun k => by rw [spec_l01Gcd.l0]) ?_
    by_cases h : b = 0
    · subst h
      refine ev_pos rfl ?_
      rw [Nat.gcd_zero_right]
      exact ev_now _
    · refine ev_neg (by omega) ?_
      rw [tmod_nat', gcd_step a b h]
      exact ih (a % b) (Nat.mod_lt _ (by omega)) b
theorem l01Gcd_ev (a b : Nat) : Ev (fun k => spec_l01Gcd.f k (a : Int) (b : Int)) ((Nat.gcd a b : Nat) : Int) := by
  unfold spec_l01Gcd.f
  exact l01Gcd_l0 b a
theorem lcm_div (a b : Nat) : a / Nat.gcd a b * b = Nat.lcm a b := by
  rw [Nat.lcm, Nat.mul_comm a b, Nat.mul_div_assoc _ (Nat.gcd_dvd_left a b), Nat.mul_comm]
theorem lcm_le (a b : Nat) : Nat.lcm a b ≤ a * b := by
  rw [← lcm_div]; exact Nat.mul_le_mul_right _ (Nat.div_le_self _ _)
theorem l01Lcm_ev (a b : Nat) (ha : 0 < a) (h : a * b ≤ 9223372036854775807) : Ev (fun k => spec_l01Lcm.f k (a : Int) (b : Int)) ((Nat.lcm a b : Nat) : Int) := by
  unfold spec_l01Lcm.f
  have hg : 0 < Nat.gcd a b := Nat.gcd_pos_of_pos_left _ ha
  refine ev_bind (l01Gcd_ev a b) (ev_neg (by omega) (ev_is ?_))
  have h0 : b = 0 ∨ a ≤ a * b := by
    rcases Nat.eq_zero_or_pos b with h0 | h0
    · exact .inl h0
    · exact .inr (Nat.le_mul_of_pos_right _ h0)
  have h1 := Nat.div_le_self a (Nat.gcd a b)
  have h2 := lcm_le a b
  rw [tdiv_nat]
  rcases h0 with h0 | h0
  · subst h0
    rw [Int.natCast_zero, Int.mul_zero, Nat.lcm_zero_right]
    decide +kernel
  · rw [wrap_nat (Nat.le_trans h1 (Nat.le_trans h0 h)), ← Int.natCast_mul, lcm_div, wrap_nat (Nat.le_trans h2 h)]
end Go.Proofs.Ytnmpjikiodnmnaa.Pure
end
section
namespace Go.Proofs.Ytnmpjikiodnmnaa.Pure
open Go.RowKit Go.Proofs.Ytnmpjikiodnmnaa.P Go.Proofs.YtnmpjikiodnmnaaW.PrintWords Go.Proofs.YtnmpjikiodnmnaaW.PrintLast Go.Proofs.YtnmpjikiodnmnaaW.PrintMore
set_option linter.unusedVariables false
set_option linter.unusedSimpArgs false
/-- the digit of the road between two places -/
def roadOf (i j : Int) : Int := 2 ^ ((max i j) * ((max i j) - 1) / 2 + min i j).toNat
/-- Two places are near: the same, or joined. -/
def nearB (b i j : Int) : Bool := if i = j then true else Go.bits .and .i64 b (roadOf i j) != 0
end Go.Proofs.Ytnmpjikiodnmnaa.Pure
end
section
namespace Go.Proofs.Ytnmpjikiodnmnaa.Pure
open Go.RowKit Go.Proofs.Ytnmpjikiodnmnaa.P Go.Proofs.YtnmpjikiodnmnaaW.PrintWords Go.Proofs.YtnmpjikiodnmnaaW.PrintLast Go.Proofs.YtnmpjikiodnmnaaW.PrintMore
set_option linter.unusedVariables false
set_option linter.unusedSimpArgs false
theorem rd_set {l : List Int} {b i : Nat} {x : Int} (hb : b < l.length) : rd (l.set b x) (i : Nat) = if i = b then x else rd l (i : Nat) := by
  simp only [rd, Int.toNat_natCast, List.getD_eq_getElem?_getD, List.getElem?_set]
  by_cases h : b = i
  · subst h; simp [hb]
  · rw [if_neg h, if_neg (fun e => h e.symm)]
end Go.Proofs.Ytnmpjikiodnmnaa.Pure
end
section
namespace Go.Proofs.Ytnmpjikiodnmnaa.Pure
open Go.RowKit Go.Proofs.Ytnmpjikiodnmnaa.P Go.Proofs.YtnmpjikiodnmnaaW.PrintWords Go.Proofs.YtnmpjikiodnmnaaW.PrintLast Go.Proofs.YtnmpjikiodnmnaaW.PrintMore
set_option linter.unusedVariables false
set_option linter.unusedSimpArgs false
def neg : List Int → Nat
  | [] => 0
  | y :: l => (if y < 0 then 1 else 0) + neg l
theorem neg_set (v : Int) (hv : 0 ≤ v) : ∀ (l : List Int) (n : Nat) (h : n < l.length), l[n] < 0 → neg (l.set n v) + 1 = neg l := by
  intro l
  induction l with
  | nil => intro n h; simp at h
  | cons y l ih =>
    intro n h hn
    cases n with
    | zero =>
      simp only [List.getElem_cons_zero] at hn
      simp only [List.set_cons_zero, neg]
      rw [if_neg (by omega), if_pos hn]
      omega
    | succ n =>
      simp only [List.getElem_cons_succ] at hn
      simp only [List.set_cons_succ, neg]
      have := ih n (by simpa using h) hn
      omega
def stepJ (b h : Int) (j : Nat) (s : List Int × List Int) : List Int × List Int := if rd s.1 (j : Int) < 0 ∧ nearB b h (j : Int) = true then (s.1.set j (rd s.1 h + 1), s.2 ++ [(j : Int)]) else s
def inJ (b h : Int) : Nat → Nat → List Int × List Int → List Int × List Int
  | 0, _, s => s
  | d + 1, j, s => inJ b h d (j + 1) (stepJ b h j s)
structure Bfs (a : Nat) (s : List Int × List Int) : Prop where
  len : s.1.length = a
  mem : ∀ x ∈ s.2, 0 ≤ x ∧ x < (a : Int) ∧ 0 ≤ rd s.1 x
  hi : ∀ i : Nat, i < a → rd s.1 (i : Int) ≤ (s.2.length : Int)
  num : s.2.length + neg s.1 ≤ a
theorem Bfs.step {a : Nat} {b h : Int} {j : Nat} {s : List Int × List Int} (B : Bfs a s) (hj : j < a) (hh : 0 ≤ h ∧ h < (a : Int) ∧ 0 ≤ rd s.1 h) : Bfs a (stepJ b h j s) := by
  unfold stepJ
  split
  · next c =>
    have hl := B.len
    refine ⟨by rw [List.length_set]; exact hl, fun x hx => ?_, fun i hi => ?_, ?_⟩
    · rcases List.mem_append.1 hx with hx | hx
      · obtain ⟨h1, h2, h3⟩ := B.mem x hx
        obtain ⟨n, rfl⟩ : ∃ n : Nat, x = n := ⟨x.toNat, by omega⟩
        refine ⟨h1, h2, ?_⟩
        show 0 ≤ rd (s.1.set j _) (n : Int)
        rw [rd_set (by omega)]
        split <;> omega
      · rw [List.mem_singleton.1 hx]
        refine ⟨by omega, by omega, ?_⟩
        show 0 ≤ rd (s.1.set j _) (j : Int)
        rw [rd_set (by omega), if_pos rfl]
        omega
    · have h1 := B.hi i hi
      have h2 := B.hi h.toNat (by omega)
      rw [show ((h.toNat : Nat) : Int) = h by omega] at h2
      show rd (s.1.set j _) (i : Int) ≤ ((s.2 ++ [(j : Int)]).length : Int)
      rw [rd_set (by omega), List.length_append, List.length_singleton]
      split <;> omega
    · have c1 := c.1
      rw [rd_nat (by omega)] at c1
      have := neg_set (rd s.1 h + 1) (by omega) s.1 j (by omega) c1
      have := B.num
      show (s.2 ++ [(j : Int)]).length + neg (s.1.set j (rd s.1 h + 1)) ≤ a
      rw [List.length_append, List.length_singleton]
      omega
  · exact B
theorem stepJ_head {a : Nat} {b h : Int} {j : Nat} {s : List Int × List Int} (B : Bfs a s) (hj : j < a) (hh : 0 ≤ h ∧ h < (a : Int) ∧ 0 ≤ rd s.1 h) : 0 ≤ rd (stepJ b h j s).1 h := by
  unfold stepJ
  split
  · have hl := B.len
    obtain ⟨n, rfl⟩ : ∃ n : Nat, h = n := ⟨h.toNat, by omega⟩
    show 0 ≤ rd (s.1.set j _) (n : Int)
    rw [rd_set (by omega)]
    split <;> omega
  · exact hh.2.2
theorem Bfs.inner {a : Nat} {b h : Int} : ∀ d j : Nat, j + d = a → ∀ s : List Int × List Int, Bfs a s → (0 ≤ h ∧ h < (a : Int) ∧ 0 ≤ rd s.1 h) → Bfs a (inJ b h d j s) := by
  intro d
  induction d with
  | zero => intro j _ s B _; exact B
  | succ d ih => intro j hj s B hh; exact ih (j + 1) (by omega) _ (B.step (by omega) hh) ⟨hh.1, hh.2.1, stepJ_head B (by omega) hh⟩
end Go.Proofs.Ytnmpjikiodnmnaa.Pure
end
section
namespace Go.Proofs.Ytnmpjikiodnmnaa.Pure
open Go.RowKit Go.Proofs.Ytnmpjikiodnmnaa.P Go.Proofs.YtnmpjikiodnmnaaW.PrintWords Go.Proofs.YtnmpjikiodnmnaaW.PrintLast Go.Proofs.YtnmpjikiodnmnaaW.PrintMore
set_option linter.unusedVariables false
set_option linter.unusedSimpArgs false
/-- the least common multiple of a and the numbers of a list -/
def lcmN : Nat → List Int → Nat
  | a, [] => a
  | a, g :: l => lcmN (Nat.lcm a g.toNat) l
theorem lcmN_append (a : Nat) (l m : List Int) : lcmN a (l ++ m) = lcmN (lcmN a l) m := by
  induction l generalizing a with
  | nil => rfl
  | cons g l ih => simp only [List.cons_append, lcmN, ih]
theorem lcmN_take_succ (a : Nat) (l : List Int) (n : Nat) (h : n < l.length) : lcmN a (l.take (n + 1)) = Nat.lcm (lcmN a (l.take n)) (l[n]).toNat := by
  rw [List.take_succ_eq_append_getElem h, lcmN_append]; rfl
theorem lcmN_pos (a : Nat) (ha : 0 < a) (l : List Int) (h : ∀ x ∈ l, 1 ≤ x) : 0 < lcmN a l := by
  induction l generalizing a with
  | nil => exact ha
  | cons g l ih =>
    have := h g List.mem_cons_self
    exact ih _ (Nat.lcm_pos ha (by omega)) (fun x hx => h x (List.mem_cons_of_mem _ hx))
theorem lcmN_le (l : List Int) (h : ∀ x ∈ l, 1 ≤ x ∧ x ≤ 60) : ∀ a, lcmN a l ≤ a * 60 ^ l.length := by
  induction l with
  | nil => intro a; simp [lcmN]
  | cons g l ih =>
    intro a
    have h1 := h g List.mem_cons_self
    have h2 := ih (fun x hx => h x (List.mem_cons_of_mem _ hx)) (Nat.lcm a g.toNat)
    have h3 : Nat.lcm a g.toNat ≤ a * 60 := Nat.le_trans (lcm_le _ _) (Nat.mul_le_mul_left _ (by omega))
    refine Nat.le_trans h2 ?_
    rw [List.length_cons, Nat.pow_succ, Nat.mul_comm (60 ^ l.length) 60, ← Nat.mul_assoc]
    exact Nat.mul_le_mul_right _ h3
theorem lcmN_le8 {l : List Int} (h : ∀ x ∈ l, 1 ≤ x ∧ x ≤ 60) (hl : l.length ≤ 8) : lcmN 1 l ≤ 167961600000000 := by
  have h1 := lcmN_le l h 1
  have h2 : 60 ^ l.length ≤ 60 ^ 8 := Nat.pow_le_pow_right (by omega) hl
  omega
theorem dvd_lcmN_self (a : Nat) (l : List Int) : a ∣ lcmN a l := by
  induction l generalizing a with
  | nil => exact Nat.dvd_refl _
  | cons g l ih => exact Nat.dvd_trans (Nat.dvd_lcm_left _ _) (ih _)
theorem dvd_lcmN (a : Nat) (l : List Int) (x : Int) (hx : x ∈ l) : x.toNat ∣ lcmN a l := by
  induction l generalizing a with
  | nil => cases hx
  | cons g l ih =>
    rcases List.mem_cons.1 hx with rfl | hx
    · exact Nat.dvd_trans (Nat.dvd_lcm_right _ _) (dvd_lcmN_self _ _)
    · exact ih _ hx
end Go.Proofs.Ytnmpjikiodnmnaa.Pure
end
section
namespace Go.Proofs.Ytnmpjikiodnmnaa.Pure
open Go.RowKit Go.Proofs.Ytnmpjikiodnmnaa.P Go.Proofs.YtnmpjikiodnmnaaW.PrintWords Go.Proofs.YtnmpjikiodnmnaaW.PrintLast Go.Proofs.YtnmpjikiodnmnaaW.PrintMore
set_option linter.unusedVariables false
set_option linter.unusedSimpArgs false
def sumG (N : Nat) (l : List Int) : Nat := match l with | [] => 0 | g :: l => N / g.toNat + sumG N l
theorem sumG_append (N : Nat) (a b : List Int) : sumG N (a ++ b) = sumG N a + sumG N b := by
  induction a with
  | nil => simp [sumG]
  | cons y a ih => simp only [List.cons_append, sumG, ih]; omega
theorem sumG_le (N : Nat) (l : List Int) : sumG N l ≤ l.length * N := by
  induction l with
  | nil => simp [sumG]
  | cons y l ih =>
    have := Nat.div_le_self N y.toNat
    rw [sumG, List.length_cons, Nat.succ_mul]
    omega
end Go.Proofs.Ytnmpjikiodnmnaa.Pure
end
section
namespace Go.Proofs.Ytnmpjikiodnmnaa.Pure
open Go.RowKit Go.Proofs.Ytnmpjikiodnmnaa.P Go.Proofs.YtnmpjikiodnmnaaW.PrintWords Go.Proofs.YtnmpjikiodnmnaaW.PrintLast Go.Proofs.YtnmpjikiodnmnaaW.PrintMore
set_option linter.unusedVariables false
set_option linter.unusedSimpArgs false
def jobOk (L P D : List Int) (i : Nat) : Bool := decide (1 ≤ rd P i ∧ rd P i ≤ 60) && (decide (1 ≤ rd L i ∧ rd L i ≤ 20) && decide (1 ≤ rd D i ∧ rd D i ≤ rd P i))
def isJobs (L P D : List Int) : Bool := decide (1 ≤ (L.length : Int) ∧ (L.length : Int) ≤ 8) && (decide (P.length = L.length ∧ D.length = L.length) && (List.range' 0 L.length).all (jobOk L P D))
theorem isJobs_len {L P D : List Int} (h : isJobs L P D = true) : 1 ≤ L.length ∧ L.length ≤ 8 ∧ P.length = L.length ∧ D.length = L.length := by
  simp only [isJobs, Bool.and_eq_true, decide_eq_true_iff] at h
  omega
theorem isJobs_at {L P D : List Int} (h : isJobs L P D = true) {i : Nat} (hi : i < L.length) : (1 ≤ rd P i ∧ rd P i ≤ 60) ∧ (1 ≤ rd L i ∧ rd L i ≤ 20) ∧ (1 ≤ rd D i ∧ rd D i ≤ rd P i) := by
  simp only [isJobs, Bool.and_eq_true, List.all_eq_true] at h
  have h1 := h.2.2 i (by simp; omega)
  simp only [jobOk, Bool.and_eq_true, decide_eq_true_iff] at h1
  exact h1
end Go.Proofs.Ytnmpjikiodnmnaa.Pure
end
section
namespace Go.Proofs.Ytnmpjikiodnmnaa.Pure
open Go.RowKit Go.Proofs.Ytnmpjikiodnmnaa.P Go.Proofs.YtnmpjikiodnmnaaW.PrintWords Go.Proofs.YtnmpjikiodnmnaaW.PrintLast Go.Proofs.YtnmpjikiodnmnaaW.PrintMore
set_option linter.unusedVariables false
set_option linter.unusedSimpArgs false
def numTo (L P : List Int) (M : Nat) : Nat → Nat
  | 0 => 0
  | i + 1 => numTo L P M i + (rd L i).toNat * (M / (rd P i).toNat)
/-- a state of the reference's loop: a fraction in lowest terms, of the value of the first jobs' load -/
structure LoadAt (L P : List Int) (i a b : Nat) : Prop where
  co : Nat.Coprime a b
  pos : 0 < b
  val : a * lcmN 1 P = b * numTo L P (lcmN 1 P) i
theorem LoadAt.next {L P D : List Int} {i a b : Nat} (h : isJobs L P D = true) (hi : i < L.length) (s : LoadAt L P i a b) {l p : Nat} (hl : rd L i = (l : Int)) (hp : rd P i = (p : Int)) :
    0 < Nat.gcd (a * p + l * b) (b * p) ∧ LoadAt L P (i + 1) ((a * p + l * b) / Nat.gcd (a * p + l * b) (b * p)) ((b * p) / Nat.gcd (a * p + l * b) (b * p)) := by
  have hat := isJobs_at h hi
  have hlen := isJobs_len h
  have hp0 : 0 < p := by omega
  have hbp : 0 < b * p := Nat.mul_pos s.pos hp0
  have hg : 0 < Nat.gcd (a * p + l * b) (b * p) := Nat.gcd_pos_of_pos_right _ hbp
  have hpM : p ∣ lcmN 1 P := by
    have := dvd_lcmN 1 P (rd P i) (by rw [rd_nat (by omega)]; exact List.getElem_mem _)
    rwa [hp, Int.toNat_natCast] at this
  have e : (a * p + l * b) * lcmN 1 P = (b * p) * numTo L P (lcmN 1 P) (i + 1) := by
    rw [numTo, hl, hp, Int.toNat_natCast, Int.toNat_natCast, Nat.add_mul, Nat.mul_add]
    have h1 : a * p * lcmN 1 P = b * p * numTo L P (lcmN 1 P) i := by
      rw [Nat.mul_right_comm, s.val, Nat.mul_right_comm]
    have h2 : l * b * lcmN 1 P = b * p * (l * (lcmN 1 P / p)) := by
      have h3 : p * (lcmN 1 P / p) = lcmN 1 P := Nat.mul_div_cancel' hpM
      rw [show b * p * (l * (lcmN 1 P / p)) = l * b * (p * (lcmN 1 P / p)) by ac_rfl, h3]
    rw [h1, h2]
  generalize hgg : Nat.gcd (a * p + l * b) (b * p) = g at hg ⊢
  have d1 : g ∣ a * p + l * b := hgg ▸ Nat.gcd_dvd_left _ _
  have d2 : g ∣ b * p := hgg ▸ Nat.gcd_dvd_right _ _
  refine ⟨hg, ?_, Nat.div_pos (Nat.le_of_dvd hbp d2) hg, ?_⟩
  · rw [← hgg]
    exact Nat.coprime_div_gcd_div_gcd (hgg.symm ▸ hg)
  · have h5 : g * ((a * p + l * b) / g * lcmN 1 P) = g * (b * p / g * numTo L P (lcmN 1 P) (i + 1)) := by
      rw [← Nat.mul_assoc, ← Nat.mul_assoc, Nat.mul_div_cancel' d1, Nat.mul_div_cancel' d2, e]
    exact Nat.eq_of_mul_eq_mul_left hg h5
theorem l01Lowest_ev (x y : Nat) (hy : 0 < y) (hx : x ≤ 9223372036854775807) (hy2 : y ≤ 9223372036854775807) : Ev (fun k => spec_l01Lowest.f k (x : Int) (y : Int)) (((x / Nat.gcd x y : Nat) : Int), ((y / Nat.gcd x y : Nat) : Int)) := by
  unfold spec_l01Lowest.f
  have hg : 0 < Nat.gcd x y := Nat.gcd_pos_of_pos_right _ hy
  refine ev_bind (l01Gcd_ev x y) (ev_neg (by omega) (ev_is ?_))
  rw [tdiv_nat, tdiv_nat, wrap_nat (Nat.le_trans (Nat.div_le_self _ _) hx), wrap_nat (Nat.le_trans (Nat.div_le_self _ _) hy2)]
end Go.Proofs.Ytnmpjikiodnmnaa.Pure
end
section
namespace Go.Proofs.Ytnmpjikiodnmnaa.Pure
open Go.RowKit Go.Proofs.Ytnmpjikiodnmnaa.P Go.Proofs.YtnmpjikiodnmnaaW.PrintWords Go.Proofs.YtnmpjikiodnmnaaW.PrintLast Go.Proofs.YtnmpjikiodnmnaaW.PrintMore
set_option linter.unusedVariables false
set_option linter.unusedSimpArgs false
theorem l01In_f (n lo hi : Int) : spec_l01In.f n lo hi = some (decide (lo ≤ n ∧ n ≤ hi)) := by
  unfold spec_l01In.f
  by_cases h : n ≥ lo
  · rw [if_pos h]; simp [show lo ≤ n from h]
  · rw [if_neg h]; simp [show ¬ lo ≤ n from h]
theorem all_take_succ {α : Type} (p : α → Bool) (l : List α) (n : Nat) (h : n < l.length) : (l.take (n + 1)).all p = ((l.take n).all p && p l[n]) := by
  rw [List.take_succ_eq_append_getElem h, List.all_append]; simp
theorem all_false_at {α : Type} (p : α → Bool) (l : List α) (n : Nat) (h : n < l.length) (hp : p l[n] = false) : l.all p = false := by
  rw [Bool.eq_false_iff]
  intro ha
  rw [List.all_eq_true] at ha
  rw [ha _ (List.getElem_mem h)] at hp
  cases hp
end Go.Proofs.Ytnmpjikiodnmnaa.Pure
end
section
namespace Go.Proofs.Ytnmpjikiodnmnaa.Pure
open Go.RowKit Go.Proofs.Ytnmpjikiodnmnaa.P Go.Proofs.YtnmpjikiodnmnaaW.PrintWords Go.Proofs.YtnmpjikiodnmnaaW.PrintLast Go.Proofs.YtnmpjikiodnmnaaW.PrintMore
set_option linter.unusedVariables false
set_option linter.unusedSimpArgs false
/-- tasks: 1 to 8 gaps in 1..40 -/
def isTasks (l : List Int) : Bool := decide (1 ≤ (l.length : Int) ∧ (l.length : Int) ≤ 8) && l.all fun g => decide (1 ≤ g ∧ g ≤ 40)
theorem IsTasks_f (l : List Int) : impl_IsTasks.f l = some (isTasks l) := rfl
theorem isTasks_iff (l : List Int) : isTasks l = true ↔ (1 ≤ l.length ∧ l.length ≤ 8) ∧ (∀ x ∈ l, 1 ≤ x ∧ x ≤ 40) := by
  unfold isTasks
  rw [Bool.and_eq_true, List.all_eq_true, decide_eq_true_iff]
  simp only [decide_eq_true_iff]
  constructor
  · rintro ⟨h1, h2⟩; exact ⟨by omega, h2⟩
  · rintro ⟨h1, h2⟩; exact ⟨by omega, h2⟩
theorem l01Is_l0 (l : List Int) (hl : l.length ≤ 1048576) : ∀ d n : Nat, n + d = l.length → (l.take n).all (fun g => decide (1 ≤ g ∧ g ≤ 40)) = true → Ev (fun k => spec_l01Is.l0 k (n : Int) l) (isTasks l) := by
  intro d
  induction d with
  | zero =>
    intro n hn ha
    refine Ev.step (fun k => by rw [spec_l01Is.l0]) ?_
    refine ev_neg (by omega) (ev_fix (show spec_l01K.f l = some (l.length : Int) from rfl) (ev_fix (l01In_f _ _ _) (ev_is ?_)))
    rw [List.take_of_length_le (by omega)] at ha
    rw [isTasks, ha, Bool.and_true]
  | succ d ih =>
    intro n hn ha
    have hlt : n < l.length := by omega
    refine Ev.step (fun k => by rw [spec_l01Is.l0]) (ev_pos (by omega) (ev_pos (by omega) (ev_fix (l01In_f _ _ _) ?_)))
    rw [rd_nat hlt]
    cases hq : decide (1 ≤ l[n] ∧ l[n] ≤ 40) with
    | true =>
      refine ev_pos rfl ?_
      rw [wrap_succ (by omega)]
      exact ih (n + 1) (by omega) (by rw [all_take_succ _ _ _ hlt, ha, hq]; rfl)
    | false =>
      refine ev_neg (by simp) (ev_is ?_)
      rw [isTasks, all_false_at _ l n hlt hq, Bool.and_false]
theorem l01Is_ev (l : List Int) (hl : l.length ≤ 1048576) : Ev (fun k => spec_l01Is.f k l) (isTasks l) := by
  unfold spec_l01Is.f
  exact l01Is_l0 l hl l.length 0 (by omega) (by simp)
end Go.Proofs.Ytnmpjikiodnmnaa.Pure
end
section
namespace Go.Proofs.Ytnmpjikiodnmnaa.P
open Go.RowKit Go.Proofs.YtnmpjikiodnmnaaW.PrintWords Go.Proofs.YtnmpjikiodnmnaaW.PrintLast Go.Proofs.YtnmpjikiodnmnaaW.PrintMore
attribute [local go_sem] max2_int min2_int max_two min_two max_three min_three max_four min_four   -- for this text's walks alone
set_option linter.unusedVariables false
set_option linter.unusedSimpArgs false
def math_bits_Mul64.f (a0 : Int) (a1 : Int) : Option (Int × Int) := some (IntKind.u64.wrap ((IntKind.u64.wrap ((IntKind.u64.wrap ((a0 / 4294967296) * (a1 / 4294967296))) + ((IntKind.u64.wrap ((IntKind.u64.wrap ((a0 / 4294967296) * (Go.bits .and .u64 a1 4294967295))) + ((IntKind.u64.wrap ((Go.bits .and .u64 a0 4294967295) * (Go.bits .and .u64 a1 4294967295))) / 4294967296))) / 4294967296))) + ((IntKind.u64.wrap ((Go.bits .and .u64 (IntKind.u64.wrap ((IntKind.u64.wrap ((a0 / 4294967296) * (Go.bits .and .u64 a1 4294967295))) + ((IntKind.u64.wrap ((Go.bits .and .u64 a0 4294967295) * (Go.bits .and .u64 a1 4294967295))) / 4294967296))) 4294967295) + (IntKind.u64.wrap ((Go.bits .and .u64 a0 4294967295) * (a1 / 4294967296))))) / 4294967296)), IntKind.u64.wrap (a0 * a1))
end Go.Proofs.Ytnmpjikiodnmnaa.P
end
section
namespace Go.Proofs.Ytnmpjikiodnmnaa.P
open Go.RowKit Go.Proofs.YtnmpjikiodnmnaaW.PrintWords Go.Proofs.YtnmpjikiodnmnaaW.PrintLast Go.Proofs.YtnmpjikiodnmnaaW.PrintMore
attribute [local go_sem] max2_int min2_int max_two min_two max_three min_three max_four min_four   -- for this text's walks alone
set_option linter.unusedVariables false
set_option linter.unusedSimpArgs false
def math_bits_Mul.f (a0 : Int) (a1 : Int) : Option (Int × Int) := (math_bits_Mul64.f a0 a1).bind fun bt101 => (some (bt101.1, bt101.2))
end Go.Proofs.Ytnmpjikiodnmnaa.P
end
section
namespace Go.Proofs.Ytnmpjikiodnmnaa.P
open Go.RowKit Go.Proofs.YtnmpjikiodnmnaaW.PrintWords Go.Proofs.YtnmpjikiodnmnaaW.PrintLast Go.Proofs.YtnmpjikiodnmnaaW.PrintMore
attribute [local go_sem] max2_int min2_int max_two min_two max_three min_three max_four min_four   -- for this text's walks alone
set_option linter.unusedVariables false
set_option linter.unusedSimpArgs false
def slices_Repeat_Sint64_int64.f (l0 : List Int) (a1 : Int) : Option (List Int) := if l0.length = 1 ∧ (0 ≤ a1 ∧ a1 < 4294967296) then some (List.replicate a1.toNat (rd l0 0)) else if (1 ≤ l0.length ∧ l0.length ≤ 1024) ∧ (1 ≤ a1 ∧ a1 ≤ 1024) then some (List.replicate a1.toNat l0).flatten else none
end Go.Proofs.Ytnmpjikiodnmnaa.P
end
section
namespace Go.Proofs.Ytnmpjikiodnmnaa.Pure
open Go.RowKit Go.Proofs.Ytnmpjikiodnmnaa.P Go.Proofs.YtnmpjikiodnmnaaW.PrintWords Go.Proofs.YtnmpjikiodnmnaaW.PrintLast Go.Proofs.YtnmpjikiodnmnaaW.PrintMore
set_option linter.unusedVariables false
set_option linter.unusedSimpArgs false
def dgR (G : List Int) : Int × Int := (((sumG (lcmN 1 G) G / Nat.gcd (sumG (lcmN 1 G) G) (lcmN 1 G) : Nat) : Int), ((lcmN 1 G / Nat.gcd (sumG (lcmN 1 G) G) (lcmN 1 G) : Nat) : Int))
theorem lcm_take8 {G : List Int} (hG : ∀ x ∈ G, 1 ≤ x ∧ x ≤ 40) (h8 : G.length ≤ 8) (n : Nat) : 1 ≤ lcmN 1 (G.take n) ∧ lcmN 1 (G.take n) ≤ 167961600000000 := by
  have h1 := lcmN_pos 1 (by omega) (G.take n) (fun x hx => (hG x (List.mem_of_mem_take hx)).1)
  have h2 := lcmN_le8 (l := G.take n) (fun x hx => by have := hG x (List.mem_of_mem_take hx); omega) (by rw [List.length_take]; omega)
  omega
theorem l01Density_any (G : List Int) (hG : ∀ x ∈ G, 1 ≤ x ∧ x ≤ 40) (h8 : G.length ≤ 8) : Ev (fun k => spec_l01Density.f k G) (dgR G) := by
  have hN40 := lcm_take8 hG h8 G.length
  rw [List.take_of_length_le (Nat.le_refl _)] at hN40
  generalize hN : lcmN 1 G = N at hN40
  have main1 : ∀ d n : Nat, n + d = G.length → Ev (fun k => spec_l01Density.l1 k (N : Int) ((sumG N (G.take n) : Nat) : Int) (n : Int) G) (dgR G) := by
    intro d
    induction d with
    | zero =>
      intro n hn
      rw [List.take_of_length_le (by omega)]
      have hs := sumG_le N G
      have hb : sumG N G ≤ 8 * 167961600000000 := Nat.le_trans hs (Nat.mul_le_mul h8 hN40.2)
      refine Ev.step (fun k => by rw [spec_l01Density.l1]) ?_
      refine ev_neg (by omega) (ev_bind (l01Lowest_ev (sumG N G) N (by omega) (by omega) (by omega)) ?_)
      unfold dgR
      rw [hN]
      exact ev_now _
    | succ d ih =>
      intro n hn
      have hlt : n < G.length := by omega
      have hg := hG _ (List.getElem_mem hlt)
      have hs := sumG_le N (G.take n)
      rw [List.length_take] at hs
      have hb : sumG N (G.take n) ≤ 8 * 167961600000000 := Nat.le_trans hs (Nat.mul_le_mul (by omega) hN40.2)
      have h1 := Nat.div_le_self N (G[n]).toNat
      have ih := ih (n + 1) (by omega)
      rw [List.take_succ_eq_append_getElem hlt, sumG_append] at ih
      refine Ev.step (fun k => by rw [spec_l01Density.l1]) ?_
      rw [rd_nat hlt, wrap_succ (n := n) (by omega), show Int.tdiv (N : Int) G[n] = ((N / (G[n]).toNat : Nat) : Int) by
        conv => lhs; rw [show G[n] = ((G[n].toNat : Nat) : Int) by omega]
        exact tdiv_nat _ _]
      rw [wrap_nat (n := N / (G[n]).toNat) (by omega), ← Int.natCast_add, wrap_nat (by omega)]
      refine ev_pos (by omega) (ev_pos (by omega) (ev_neg (by omega) ?_))
      have e : sumG N (G.take n) + N / (G[n]).toNat = sumG N (G.take n) + sumG N [G[n]] := by simp [sumG]
      rw [e]
      exact ih
  have main0 : ∀ d n : Nat, n + d = G.length → Ev (fun k => spec_l01Density.l0 k ((lcmN 1 (G.take n) : Nat) : Int) 0 (n : Int) G) (dgR G) := by
    intro d
    induction d with
    | zero =>
      intro n hn
      rw [List.take_of_length_le (by omega), hN]
      refine Ev.step (fun k => by rw [spec_l01Density.l0]) (ev_neg (by omega) ?_)
      exact main1 G.length 0 (by omega)
    | succ d ih =>
      intro n hn
      have hlt : n < G.length := by omega
      have hg := hG _ (List.getElem_mem hlt)
      have ih := ih (n + 1) (by omega)
      obtain ⟨p1, p2⟩ := lcm_take8 hG h8 n
      rw [lcmN_take_succ _ _ _ hlt] at ih
      obtain ⟨g, hgg⟩ : ∃ g : Nat, G[n] = (g : Int) := ⟨(G[n]).toNat, by omega⟩
      rw [hgg, Int.toNat_natCast] at ih
      rw [hgg] at hg
      generalize lcmN 1 (G.take n) = a at p1 p2 ih ⊢
      have hb : a * g ≤ 167961600000000 * 40 := Nat.mul_le_mul p2 (by omega)
      refine Ev.step (fun k => by rw [spec_l01Density.l0]) ?_
      rw [rd_nat hlt, hgg, wrap_succ (n := n) (by omega)]
      exact ev_pos (by omega) (ev_pos (by omega) (ev_bind (l01Lcm_ev a g (by omega) (by omega)) ih))
  unfold spec_l01Density.f
  exact main0 G.length 0 (by omega)
end Go.Proofs.Ytnmpjikiodnmnaa.Pure
end
section
namespace Go.Proofs.Ytnmpjikiodnmnaa.Pure
open Go.RowKit Go.Proofs.Ytnmpjikiodnmnaa.P Go.Proofs.YtnmpjikiodnmnaaW.PrintWords Go.Proofs.YtnmpjikiodnmnaaW.PrintLast Go.Proofs.YtnmpjikiodnmnaaW.PrintMore
set_option linter.unusedVariables false
set_option linter.unusedSimpArgs false
theorem toInt64S_l0 (l : List Int) (hl : l.length ≤ 9223372036854775807) : ∀ d n : Nat, n + d = l.length → Ev (fun k => laws_toInt64S.l0 k l (l.take n ++ List.replicate d 0) (n : Int)) l := by
  intro d
  induction d with
  | zero =>
    intro n hn
    refine Ev.step (fun k => by rw [laws_toInt64S.l0]) ?_
    refine ev_neg (by omega) ?_
    rw [List.take_of_length_le (by omega), List.replicate_zero, List.append_nil]
    exact ev_now l
  | succ d ih =>
    intro n hn
    have hlt : n < l.length := by omega
    refine Ev.step (fun k => by rw [laws_toInt64S.l0]) ?_
    refine ev_pos (by omega) (ev_pos (by omega) (ev_pos ?_ ?_))
    · rw [List.length_append, List.length_take, List.length_replicate]; omega
    · rw [wrap_succ (by omega), rd_nat hlt, Int.toNat_natCast]
      have e : (l.take n ++ List.replicate (d + 1) 0).set n l[n] = l.take (n + 1) ++ List.replicate d 0 := by
        rw [List.set_append_right _ _ (by rw [List.length_take]; omega), List.length_take, Nat.min_eq_left (by omega), Nat.sub_self, List.replicate_succ, List.set_cons_zero, List.take_succ_eq_append_getElem hlt, List.append_assoc]
        rfl
      rw [e]
      exact ih (n + 1) (by omega)
/-- toInt64S hands back the list. -/
theorem toInt64S_ev (l : List Int) (hl : l.length ≤ 35184372088832) : Ev (fun k => laws_toInt64S.f k l) l := by
  unfold laws_toInt64S.f
  refine ev_pos (by omega) (ev_pos (by omega) ?_)
  rw [Int.toNat_natCast]
  exact toInt64S_l0 l (by omega) l.length 0 (by omega)
theorem eqInt64S_l0 (l : List Int) (hl : l.length ≤ 9223372036854775807) : ∀ d n : Nat, n + d = l.length → Ev (fun k => laws_eqInt64S.l0 k l l (n : Int)) true := by
  intro d
  induction d with
  | zero =>
    intro n hn
    refine Ev.step (fun k => by rw [laws_eqInt64S.l0]) ?_
    exact ev_neg (by omega) (ev_now true)
  | succ d ih =>
    intro n hn
    refine Ev.step (fun k => by rw [laws_eqInt64S.l0]) ?_
    refine ev_pos (by omega) (ev_pos (by omega) (ev_pos (by omega) (ev_pos rfl ?_)))
    rw [wrap_succ (by omega)]
    exact ih (n + 1) (by omega)
/-- eqInt64S says that a list is itself. -/
theorem eqInt64S_ev (l : List Int) (hl : l.length ≤ 9223372036854775807) : Ev (fun k => laws_eqInt64S.f k l l) true := by
  unfold laws_eqInt64S.f
  exact ev_pos rfl (eqInt64S_l0 l hl l.length 0 (by omega))
end Go.Proofs.Ytnmpjikiodnmnaa.Pure
end
section
namespace Go.Proofs.Ytnmpjikiodnmnaa.Pure
open Go.RowKit Go.Proofs.Ytnmpjikiodnmnaa.P Go.Proofs.YtnmpjikiodnmnaaW.PrintWords Go.Proofs.YtnmpjikiodnmnaaW.PrintLast Go.Proofs.YtnmpjikiodnmnaaW.PrintMore
set_option linter.unusedVariables false
set_option linter.unusedSimpArgs false
theorem szInt64S_f (l : List Int) (a : Int) (hl : l.length ≤ maxLen) (ha : 0 ≤ a ∧ a ≤ 1048576) : ∃ r, laws_szInt64S.f l a = some r ∧ (r < 0 ∨ (0 ≤ r ∧ r ≤ a ∧ (l.length : Int) ≤ a)) := by
  unfold laws_szInt64S.f
  unfold maxLen at hl
  rw [wrap_id (by omega) (by omega)]
  by_cases h : a - (l.length : Int) < 0
  · exact ⟨-1, by rw [if_pos h], .inl (by omega)⟩
  · exact ⟨a - l.length, by rw [if_neg h], .inr (by omega)⟩
end Go.Proofs.Ytnmpjikiodnmnaa.Pure
end
section
namespace Go.Proofs.Ytnmpjikiodnmnaa.Pure
open Go.RowKit Go.Proofs.Ytnmpjikiodnmnaa.P Go.Proofs.YtnmpjikiodnmnaaW.PrintWords Go.Proofs.YtnmpjikiodnmnaaW.PrintLast Go.Proofs.YtnmpjikiodnmnaaW.PrintMore
set_option linter.unusedVariables false
set_option linter.unusedSimpArgs false
theorem szTasks_f (l : List Int) (hl : l.length ≤ maxLen) : ∃ r, laws_szTasks.f l 1048576 = some r ∧ (r < 0 ∨ (0 ≤ r ∧ l.length ≤ 1048576)) := by
  unfold laws_szTasks.f
  obtain ⟨r1, e1, h1⟩ := szInt64S_f l 1048576 hl (by omega)
  rw [e1, Option.bind_some]
  rcases h1 with h1 | h1
  · exact ⟨-1, by rw [if_pos h1], .inl (by omega)⟩
  · exact ⟨r1, by rw [if_neg (by omega)], .inr (by omega)⟩
theorem toTasks_ev (l : List Int) (hl : l.length ≤ 1048576) : Ev (fun k => laws_toTasks.f k l) l := by
  unfold laws_toTasks.f
  exact ev_bind (toInt64S_ev l (by omega)) (ev_now _)
theorem eqTasks_ev (l : List Int) (hl : l.length ≤ 1048576) : Ev (fun k => laws_eqTasks.f k l l) true := by
  unfold laws_eqTasks.f
  exact ev_bind (eqInt64S_ev l (by omega)) (ev_pos rfl (ev_now _))
end Go.Proofs.Ytnmpjikiodnmnaa.Pure
end
section
namespace Go.Proofs.Ytnmpjikiodnmnaa.Pure
open Go.RowKit Go.Proofs.Ytnmpjikiodnmnaa.P Go.Proofs.YtnmpjikiodnmnaaW.PrintWords Go.Proofs.YtnmpjikiodnmnaaW.PrintLast Go.Proofs.YtnmpjikiodnmnaaW.PrintMore
set_option linter.unusedVariables false
set_option linter.unusedSimpArgs false
theorem tasksCode_f (G : List Int) : impl_tasksCode.f G true = some (if isTasks G = true then 0 else 1) := by
  unfold impl_tasksCode.f
  rw [IsTasks_f, Option.bind_some]
  cases isTasks G <;> rfl
end Go.Proofs.Ytnmpjikiodnmnaa.Pure
end
section
namespace Go.Proofs.Ytnmpjikiodnmnaa.P
open Go.RowKit Go.Proofs.YtnmpjikiodnmnaaW.PrintWords Go.Proofs.YtnmpjikiodnmnaaW.PrintLast Go.Proofs.YtnmpjikiodnmnaaW.PrintMore
attribute [local go_sem] max2_int min2_int max_two min_two max_three min_three max_four min_four   -- for this text's walks alone
set_option linter.unusedVariables false
set_option linter.unusedSimpArgs false
def laws_heldInt64S.l0 : Nat → List Int → Int → Int → Option (Int)
  | 0, _, _, _ => none
  | k + 1, x0, x1, x5 => if x5 < (x0.length : Int) then (if 0 ≤ x5 then (if (rd x0 x5) = x1 then (laws_heldInt64S.l0 k x0 (wrap64 (x1 + 1)) (wrap64 (x5 + 1))) else (some (-1))) else (none)) else (some x1)
def laws_heldInt64S.f (k : Nat) (l0 : List Int) (a1 : Int) : Option (Int) := laws_heldInt64S.l0 k l0 a1 0
theorem laws_heldInt64S.mono_l : ∀ k, (∀ y0 y1 y2, LeO (laws_heldInt64S.l0 k y0 y1 y2) (laws_heldInt64S.l0 (k + 1) y0 y1 y2))
  | 0 => fun _ _ _ r h => by simp [laws_heldInt64S.l0] at h
  | k + 1 => by
    have ih0 := laws_heldInt64S.mono_l k
    · intro y0 y1 y2
      unfold laws_heldInt64S.l0
      repeat' first | (with_reducible exact ih0 _ _ _) | (with_reducible exact LeO.refl _) | (with_reducible exact LeO.none _) | (with_reducible refine LeO.ite ?_ ?_) | (with_reducible refine LeO.bind ?_ (fun _ => ?_)) | exact ih0 _ _ _ | exact LeO.none _ | refine LeO.ite ?_ ?_ | refine LeO.bind ?_ (fun _ => ?_)
theorem laws_heldInt64S.mono : ∀ a0 a1 k, LeO (laws_heldInt64S.f k a0 a1) (laws_heldInt64S.f (k + 1) a0 a1) := by
  intro a0 a1 k
  have ih0 := laws_heldInt64S.mono_l k
  unfold laws_heldInt64S.f
  repeat' first | (with_reducible exact ih0 _ _ _) | (with_reducible exact LeO.refl _) | (with_reducible exact LeO.none _) | (with_reducible refine LeO.ite ?_ ?_) | (with_reducible refine LeO.bind ?_ (fun _ => ?_)) | exact ih0 _ _ _ | exact LeO.none _ | refine LeO.ite ?_ ?_ | refine LeO.bind ?_ (fun _ => ?_)
end Go.Proofs.Ytnmpjikiodnmnaa.P
end
section
namespace Go.Proofs.Ytnmpjikiodnmnaa.Pure
open Go.RowKit Go.Proofs.Ytnmpjikiodnmnaa.P Go.Proofs.YtnmpjikiodnmnaaW.PrintWords Go.Proofs.YtnmpjikiodnmnaaW.PrintLast Go.Proofs.YtnmpjikiodnmnaaW.PrintMore
set_option linter.unusedVariables false
set_option linter.unusedSimpArgs false
/-- the numbers from m on -/
def upFrom (m : Int) : Nat → List Int
  | 0 => []
  | n + 1 => m :: upFrom (m + 1) n
theorem upFrom_length (n : Nat) : ∀ m, (upFrom m n).length = n := by
  induction n with
  | zero => intro m; rfl
  | succ n ih => intro m; simp [upFrom, ih]
theorem upFrom_get (n : Nat) : ∀ (m : Int) (j : Nat), j < n → (upFrom m n)[j]? = some (m + j) := by
  induction n with
  | zero => intro m j h; omega
  | succ n ih =>
    intro m j h
    cases j with
    | zero => simp [upFrom]
    | succ j => simp only [upFrom, List.getElem?_cons_succ]; rw [ih (m + 1) j (by omega)]; congr 1; omega
theorem upFrom_succ (n : Nat) (m : Int) : upFrom m (n + 1) = upFrom m n ++ [m + n] := by
  apply List.ext_getElem?
  intro j
  rcases Nat.lt_or_ge j n with h | h
  · rw [upFrom_get _ _ _ (by omega), List.getElem?_append_left (by rw [upFrom_length]; exact h), upFrom_get _ _ _ h]
  · rw [List.getElem?_append_right (by rw [upFrom_length]; exact h), upFrom_length]
    rcases Nat.eq_or_lt_of_le h with rfl | h
    · rw [upFrom_get _ _ _ (by omega)]; simp
    · rw [List.getElem?_eq_none (by rw [upFrom_length]; omega), List.getElem?_eq_none (by simp; omega)]
theorem markInt64S_l0 (l : List Int) (m : Int) (h0 : 0 ≤ m) (hl : m + l.length ≤ 9223372036854775807) : ∀ d n : Nat, n + d = l.length → Ev (fun k => laws_markInt64S.l0 k (upFrom m n ++ l.drop n) (m + n) (n : Int)) (m + l.length, upFrom m l.length) := by
  intro d
  induction d with
  | zero =>
    intro n hn
    refine Ev.step (fun k => by rw [laws_markInt64S.l0]) ?_
    refine ev_neg (by rw [List.length_append, upFrom_length, List.length_drop]; omega) ?_
    rw [List.drop_of_length_le (by omega), List.append_nil, show n = l.length by omega]
    exact ev_now _
  | succ d ih =>
    intro n hn
    have hlt : n < l.length := by omega
    refine Ev.step (fun k => by rw [laws_markInt64S.l0]) ?_
    refine ev_pos (by rw [List.length_append, upFrom_length, List.length_drop]; omega) (ev_pos (by omega) ?_)
    rw [wrap_succ (by omega), wrap_id (x := m + n + 1) (by omega) (by omega), Int.toNat_natCast]
    have e : (upFrom m n ++ l.drop n).set n (m + n) = upFrom m (n + 1) ++ l.drop (n + 1) := by
      rw [List.set_append_right _ _ (by rw [upFrom_length]; omega), upFrom_length, Nat.sub_self, List.drop_eq_getElem_cons hlt, List.set_cons_zero, upFrom_succ, List.append_assoc]
      rfl
    rw [e, show m + (n : Int) + 1 = m + ((n + 1 : Nat) : Int) by omega]
    exact ih (n + 1) (by omega)
theorem markInt64S_ev (l : List Int) (m : Int) (h0 : 0 ≤ m) (hl : m + l.length ≤ 9223372036854775807) : Ev (fun k => laws_markInt64S.f k l m) (m + l.length, upFrom m l.length) := by
  unfold laws_markInt64S.f
  have h := markInt64S_l0 l m h0 hl l.length 0 (by omega)
  simpa [upFrom] using h
end Go.Proofs.Ytnmpjikiodnmnaa.Pure
end
section
namespace Go.Proofs.Ytnmpjikiodnmnaa.Pure
open Go.RowKit Go.Proofs.Ytnmpjikiodnmnaa.P Go.Proofs.YtnmpjikiodnmnaaW.PrintWords Go.Proofs.YtnmpjikiodnmnaaW.PrintLast Go.Proofs.YtnmpjikiodnmnaaW.PrintMore
set_option linter.unusedVariables false
set_option linter.unusedSimpArgs false
theorem markTasks_ev (l : List Int) (hl : l.length ≤ 1048576) : Ev (fun k => laws_markTasks.f k l 1) (1 + (l.length : Int), upFrom 1 l.length) := by
  unfold laws_markTasks.f
  exact ev_bind (markInt64S_ev l 1 (by omega) (by omega)) (ev_now _)
end Go.Proofs.Ytnmpjikiodnmnaa.Pure
end
section
namespace Go.Proofs.Ytnmpjikiodnmnaa.Pure
open Go.RowKit Go.Proofs.Ytnmpjikiodnmnaa.P Go.Proofs.YtnmpjikiodnmnaaW.PrintWords Go.Proofs.YtnmpjikiodnmnaaW.PrintLast Go.Proofs.YtnmpjikiodnmnaaW.PrintMore
set_option linter.unusedVariables false
set_option linter.unusedSimpArgs false
def meetB (c d : Int × Int) : Bool := decide (((Nat.gcd c.2.toNat d.2.toNat : Nat) : Int) ∣ c.1 - d.1)
def okCl (c : Int × Int) : Prop := (1 ≤ c.2 ∧ c.2 ≤ 40) ∧ 0 ≤ c.1 ∧ c.1 < c.2
theorem meetB_comm (c d : Int × Int) : meetB c d = meetB d c := by
  unfold meetB
  rw [Nat.gcd_comm c.2.toNat]
  have e : d.1 - c.1 = -(c.1 - d.1) := by omega
  rw [e]
  simp only [Int.dvd_neg]
theorem meet_mod {c d : Int × Int} (hc : okCl c) (hd : okCl d) : decide (Int.tmod (wrap64 (c.1 - d.1)) ((Nat.gcd c.2.toNat d.2.toNat : Nat) : Int) = 0) = meetB c d := by
  obtain ⟨⟨c1, c2⟩, c3, c4⟩ := hc
  obtain ⟨⟨d1, d2⟩, d3, d4⟩ := hd
  have e : wrap64 (c.1 - d.1) = c.1 - d.1 := by unfold wrap64; omega
  rw [e]
  unfold meetB
  rw [decide_eq_decide]
  exact (Int.dvd_iff_tmod_eq_zero).symm
theorem l05Meet_ev {c d : Int × Int} (hc : okCl c) (hd : okCl d) : Ev (fun k => spec_l05Meet.f k c d) (meetB c d) := by
  unfold spec_l05Meet.f
  have h := l01Gcd_ev c.2.toNat d.2.toNat
  rw [show ((c.2.toNat : Nat) : Int) = c.2 by have := hc.1.1; omega, show ((d.2.toNat : Nat) : Int) = d.2 by have := hd.1.1; omega] at h
  have hg : 0 < Nat.gcd c.2.toNat d.2.toNat := Nat.gcd_pos_of_pos_left _ (by have := hc.1.1; omega)
  exact ev_bind h (ev_neg (by omega) (ev_is (by rw [meet_mod hc hd])))
theorem meets_ev {c d : Int × Int} (hc : okCl c) (hd : okCl d) : Ev (fun k => impl_Class_meets.f k c d) (meetB c d) := by
  unfold impl_Class_meets.f
  have h := divisor_ev c.2.toNat d.2.toNat
  rw [show ((c.2.toNat : Nat) : Int) = c.2 by have := hc.1.1; omega, show ((d.2.toNat : Nat) : Int) = d.2 by have := hd.1.1; omega] at h
  have hg : 0 < Nat.gcd c.2.toNat d.2.toNat := Nat.gcd_pos_of_pos_left _ (by have := hc.1.1; omega)
  exact ev_bind h (ev_neg (by omega) (ev_is (by rw [meet_mod hc hd])))
theorem isApart_some {c : Int × Int} (hc : okCl c) : ∀ (l : List (Int × Int)), (∀ d ∈ l, okCl d) → ∃ k, ∀ n, k ≤ n → ∀ d ∈ l, impl_Class_meets.f n c d = some (meetB c d)
  | [], _ => ⟨0, fun _ _ d hd => by cases hd⟩
  | x :: l, h => by
    obtain ⟨k1, h1⟩ := isApart_some hc l (fun d hd => h d (List.mem_cons_of_mem _ hd))
    obtain ⟨k2, h2⟩ := meets_ev hc (h x List.mem_cons_self)
    refine ⟨max k1 k2, fun n hn d hd => ?_⟩
    rcases List.mem_cons.1 hd with rfl | hd
    · exact h2 n (by omega)
    · exact h1 n (by omega) d hd
theorem isApart_f {c : Int × Int} (hc : okCl c) (l : List (Int × Int)) (hl : ∀ d ∈ l, okCl d) : ∃ k, impl_Class_isApart.f k c l = some (l.all fun d => !meetB d c) := by
  obtain ⟨k, h⟩ := isApart_some hc l hl
  have h := h k (Nat.le_refl _)
  refine ⟨k, ?_⟩
  unfold impl_Class_isApart.f
  rw [if_pos (by rw [List.all_eq_true]; intro d hd; rw [h d hd]; rfl)]
  congr 1
  rw [Bool.eq_iff_iff, List.all_eq_true, List.all_eq_true]
  constructor
  · intro q d hd
    have := q d hd
    rw [h d hd, Option.getD_some, meetB_comm] at this
    exact this
  · intro q d hd
    have := q d hd
    rw [h d hd, Option.getD_some, meetB_comm]
    exact this
theorem firstT_some {good : Int → Bool} {sub : Int → Option (List (Int × Int))} : ∀ (d : Nat) (r : Int), (firstT good sub d r).isSome = true ↔ ∃ s, r ≤ s ∧ s < r + d ∧ good s = true ∧ (sub s).isSome = true := by
  intro d
  induction d with
  | zero =>
    intro r
    rw [firstT]
    constructor
    · intro h; cases h
    · rintro ⟨s, h1, h2, _⟩; omega
  | succ d ih =>
    intro r
    have ih := ih (r + 1)
    rw [firstT]
    by_cases hg : good r = true
    · rw [if_pos hg]
      cases hs : sub r with
      | some x =>
        constructor
        · intro _; exact ⟨r, by omega, by omega, hg, by rw [hs]; rfl⟩
        · intro _; rfl
      | none =>
        show (firstT good sub d (r + 1)).isSome = true ↔ _
        rw [ih]
        constructor
        · rintro ⟨s, h1, h2, h3, h4⟩; exact ⟨s, by omega, by omega, h3, h4⟩
        · rintro ⟨s, h1, h2, h3, h4⟩
          have : s ≠ r := fun e => by rw [e, hs] at h4; cases h4
          exact ⟨s, by omega, by omega, h3, h4⟩
    · rw [if_neg hg, ih]
      constructor
      · rintro ⟨s, h1, h2, h3, h4⟩; exact ⟨s, by omega, by omega, h3, h4⟩
      · rintro ⟨s, h1, h2, h3, h4⟩
        have : s ≠ r := fun e => hg (e ▸ h3)
        exact ⟨s, by omega, by omega, h3, h4⟩
/-- there are rests for the gaps, apart from the classes of a list -/
def Ext : List Int → List (Int × Int) → Prop
  | [], _ => True
  | g :: gs, l => ∃ r, 0 ≤ r ∧ r < g ∧ (∀ c ∈ l, meetB c (r, g) = false) ∧ Ext gs (l ++ [(r, g)])
theorem restsT_ext : ∀ (gs : List Int) (l : List (Int × Int)), (restsT meetB gs l).isSome = true ↔ Ext gs l
  | [], l => by simp [restsT, Ext]
  | g :: gs, l => by
    rw [restsT, Ext, firstT_some]
    constructor
    · rintro ⟨s, h1, h2, h3, h4⟩
      refine ⟨s, h1, by omega, fun c hc => ?_, (restsT_ext gs _).1 h4⟩
      have := (List.all_eq_true.1 h3) c hc
      simpa using this
    · rintro ⟨s, h1, h2, h3, h4⟩
      refine ⟨s, h1, by omega, ?_, (restsT_ext gs _).2 h4⟩
      rw [List.all_eq_true]
      intro c hc
      rw [h3 c hc]
      rfl
def shC (s : Int) (c : Int × Int) : Int × Int := ((c.1 - s) % c.2, c.2)
theorem meetB_sh (s : Int) {c d : Int × Int} (hc : 0 < c.2) (hd : 0 < d.2) : meetB (shC s c) (shC s d) = meetB c d := by
  unfold meetB shC
  show decide (((Nat.gcd c.2.toNat d.2.toNat : Nat) : Int) ∣ (c.1 - s) % c.2 - (d.1 - s) % d.2) = _
  rw [decide_eq_decide]
  have g1 : ((Nat.gcd c.2.toNat d.2.toNat : Nat) : Int) ∣ c.2 := by
    have := Int.natCast_dvd_natCast.2 (Nat.gcd_dvd_left c.2.toNat d.2.toNat)
    rwa [show ((c.2.toNat : Nat) : Int) = c.2 by omega] at this
  have g2 : ((Nat.gcd c.2.toNat d.2.toNat : Nat) : Int) ∣ d.2 := by
    have := Int.natCast_dvd_natCast.2 (Nat.gcd_dvd_right c.2.toNat d.2.toNat)
    rwa [show ((d.2.toNat : Nat) : Int) = d.2 by omega] at this
  have e1 := Int.emod_def (c.1 - s) c.2
  have e2 := Int.emod_def (d.1 - s) d.2
  rw [e1, e2, show c.1 - s - c.2 * ((c.1 - s) / c.2) - (d.1 - s - d.2 * ((d.1 - s) / d.2)) = (c.1 - d.1) - (c.2 * ((c.1 - s) / c.2) - d.2 * ((d.1 - s) / d.2)) by omega]
  have g3 : ((Nat.gcd c.2.toNat d.2.toNat : Nat) : Int) ∣ c.2 * ((c.1 - s) / c.2) - d.2 * ((d.1 - s) / d.2) := Int.dvd_sub (Int.dvd_mul_of_dvd_left g1) (Int.dvd_mul_of_dvd_left g2)
  constructor
  · intro h
    have := Int.dvd_add h g3
    rwa [Int.sub_add_cancel] at this
  · intro h
    exact Int.dvd_sub h g3
theorem ext_sh (s : Int) : ∀ (gs : List Int) (l : List (Int × Int)), (∀ g ∈ gs, 0 < g) → (∀ c ∈ l, 0 < c.2) → Ext gs l → Ext gs (l.map (shC s))
  | [], _, _, _, _ => trivial
  | g :: gs, l, hg, hl, h => by
    obtain ⟨r, h1, h2, h3, h4⟩ := h
    have hg0 := hg g List.mem_cons_self
    refine ⟨(r - s) % g, Int.emod_nonneg _ (by omega), Int.emod_lt_of_pos _ hg0, ?_, ?_⟩
    · intro c hc
      obtain ⟨c0, hc0, rfl⟩ := List.mem_map.1 hc
      have := meetB_sh s (c := c0) (d := (r, g)) (hl c0 hc0) hg0
      rw [show shC s (r, g) = ((r - s) % g, g) from rfl] at this
      rw [this]
      exact h3 c0 hc0
    · have := ext_sh s gs _ (fun x hx => hg x (List.mem_cons_of_mem _ hx)) (fun c hc => by
        rcases List.mem_append.1 hc with hc | hc
        · exact hl c hc
        · rw [List.mem_singleton.1 hc]; exact hg0) h4
      rw [List.map_append] at this
      exact this
theorem rests_first {g : Int} {gs : List Int} (hg : ∀ x ∈ g :: gs, 0 < x) : restsT meetB (g :: gs) [] = restsT meetB gs [(0, g)] := by
  have hg0 := hg g List.mem_cons_self
  rw [restsT, show g.toNat = (g.toNat - 1) + 1 by omega, firstT, if_pos (by simp)]
  cases hs : restsT meetB gs ([] ++ [((0 : Int), g)]) with
  | some x =>
    rw [List.nil_append] at hs
    rw [hs]
  | none =>
    rw [List.nil_append] at hs
    rw [hs]
    cases hf : firstT (fun r => ([] : List (Int × Int)).all fun c => !meetB c (r, g)) (fun r => restsT meetB gs ([] ++ [(r, g)])) (g.toNat - 1) (0 + 1) with
    | none => rfl
    | some x =>
      exfalso
      obtain ⟨s, _, _, _, h4⟩ := (firstT_some (g.toNat - 1) (0 + 1)).1 (by rw [hf]; rfl)
      have h5 : Ext gs [(s, g)] := (restsT_ext gs _).1 h4
      have h6 := ext_sh s gs [(s, g)] (fun x hx => hg x (List.mem_cons_of_mem _ hx)) (fun c hc => by rw [List.mem_singleton.1 hc]; exact hg0) h5
      have e : [(s, g)].map (shC s) = [((0 : Int), g)] := by simp [shC]
      rw [e] at h6
      have := (restsT_ext gs _).2 h6
      rw [hs] at this
      cases this
def rangeC (q : List (Int × Int)) : Prop := ∀ c ∈ q, 0 ≤ c.1 ∧ c.1 < c.2
def apartC (q : List (Int × Int)) : Prop := q.Pairwise fun c d => meetB c d = false
theorem ext_list : ∀ (gs : List Int) (l : List (Int × Int)), rangeC l → apartC l → Ext gs l → ∃ q, q.map Prod.snd = l.map Prod.snd ++ gs ∧ rangeC q ∧ apartC q
  | [], l, hr, ha, _ => ⟨l, by simp, hr, ha⟩
  | g :: gs, l, hr, ha, h => by
    obtain ⟨r, h1, h2, h3, h4⟩ := h
    obtain ⟨q, e, q1, q2⟩ := ext_list gs (l ++ [(r, g)]) (fun c hc => by
      rcases List.mem_append.1 hc with hc | hc
      · exact hr c hc
      · rw [List.mem_singleton.1 hc]; exact ⟨h1, h2⟩) (by
      unfold apartC
      rw [List.pairwise_append]
      refine ⟨ha, List.pairwise_singleton _ _, fun c hc d hd => ?_⟩
      rw [List.mem_singleton.1 hd]
      exact h3 c hc) h4
    exact ⟨q, by rw [e, List.map_append, List.append_assoc]; rfl, q1, q2⟩
theorem gcd_fit {c d : Int × Int} (h : meetB c d = false) : Nat.gcd c.2.toNat d.2.toNat ≠ 1 := fun e => by
  unfold meetB at h
  rw [e] at h
  simp at h
/-- the sum of f over the numbers below n -/
def sumN (f : Nat → Nat) : Nat → Nat
  | 0 => 0
  | n + 1 => sumN f n + f n
theorem sumN_add (f g : Nat → Nat) : ∀ n, sumN (fun x => f x + g x) n = sumN f n + sumN g n
  | 0 => rfl
  | n + 1 => by simp only [sumN, sumN_add f g n]; omega
theorem sumN_le (f : Nat → Nat) (h : ∀ x, f x ≤ 1) : ∀ n, sumN f n ≤ n
  | 0 => Nat.le_refl _
  | n + 1 => by have := sumN_le f h n; have := h n; simp only [sumN]; omega
theorem sumN_zero : ∀ n, sumN (fun _ => 0) n = 0
  | 0 => rfl
  | n + 1 => by simp only [sumN, sumN_zero n]
def indC (c : Int × Int) (x : Nat) : Nat := if x % c.2.toNat = c.1.toNat then 1 else 0
theorem sum_part {r g : Nat} (hr : r < g) (m : Nat) : ∀ n, n ≤ g → sumN (fun x => if x % g = r then 1 else 0) (m * g + n) = sumN (fun x => if x % g = r then 1 else 0) (m * g) + (if r < n then 1 else 0)
  | 0, _ => by simp
  | n + 1, hn => by
    have ih := sum_part hr m n (by omega)
    rw [← Nat.add_assoc, sumN, ih, Nat.mul_comm m g, Nat.mul_add_mod, Nat.mod_eq_of_lt (by omega)]
    by_cases h1 : n = r
    · rw [if_pos h1, if_neg (by omega), if_pos (by omega)]
    · rw [if_neg h1]
      by_cases h2 : r < n
      · rw [if_pos h2, if_pos (by omega)]
      · rw [if_neg h2, if_neg (by omega)]
theorem sum_class {r g : Nat} (hr : r < g) : ∀ m, sumN (fun x => if x % g = r then 1 else 0) (m * g) = m
  | 0 => by simp [sumN]
  | m + 1 => by
    have := sum_part hr m g (Nat.le_refl _)
    rw [Nat.succ_mul, this, sum_class hr m, if_pos hr]
theorem sum_ind {c : Int × Int} (hc : 0 ≤ c.1 ∧ c.1 < c.2) {L : Nat} (hd : c.2.toNat ∣ L) : sumN (indC c) L = L / c.2.toNat := by
  obtain ⟨m, rfl⟩ := hd
  have hg : 0 < c.2.toNat := by omega
  rw [Nat.mul_div_cancel_left _ hg, Nat.mul_comm]
  exact sum_class (show c.1.toNat < c.2.toNat by omega) m
def cntC : List (Int × Int) → Nat → Nat
  | [], _ => 0
  | c :: q, x => indC c x + cntC q x
theorem sum_cntC : ∀ (q : List (Int × Int)), rangeC q → ∀ {L : Nat}, (∀ c ∈ q, c.2.toNat ∣ L) → sumN (cntC q) L = sumG L (q.map Prod.snd)
  | [], _, L, _ => by
    show sumN (fun _ => 0) L = 0
    exact sumN_zero L
  | c :: q, hr, L, hd => by
    have ih := sum_cntC q (fun d hq => hr d (List.mem_cons_of_mem _ hq)) (L := L) (fun d hq => hd d (List.mem_cons_of_mem _ hq))
    show sumN (fun x => indC c x + cntC q x) L = L / c.2.toNat + sumG L (q.map Prod.snd)
    rw [sumN_add, sum_ind (hr c List.mem_cons_self) (hd c List.mem_cons_self), ← ih]
theorem both_meet {c d : Int × Int} (hc : 0 ≤ c.1 ∧ c.1 < c.2) (hd : 0 ≤ d.1 ∧ d.1 < d.2) {x : Nat} (h1 : x % c.2.toNat = c.1.toNat) (h2 : x % d.2.toNat = d.1.toNat) : meetB c d = true := by
  unfold meetB
  rw [decide_eq_true_iff]
  have e1 : c.1 = ((x % c.2.toNat : Nat) : Int) := by rw [h1]; omega
  have e2 : d.1 = ((x % d.2.toNat : Nat) : Int) := by rw [h2]; omega
  have k1 := Nat.div_add_mod x c.2.toNat
  have k2 := Nat.div_add_mod x d.2.toNat
  have g1 : ((Nat.gcd c.2.toNat d.2.toNat : Nat) : Int) ∣ ((c.2.toNat * (x / c.2.toNat) : Nat) : Int) := Int.natCast_dvd_natCast.2 (Nat.dvd_mul_right_of_dvd (Nat.gcd_dvd_left _ _) _)
  have g2 : ((Nat.gcd c.2.toNat d.2.toNat : Nat) : Int) ∣ ((d.2.toNat * (x / d.2.toNat) : Nat) : Int) := Int.natCast_dvd_natCast.2 (Nat.dvd_mul_right_of_dvd (Nat.gcd_dvd_right _ _) _)
  rw [e1, e2, show ((x % c.2.toNat : Nat) : Int) - ((x % d.2.toNat : Nat) : Int) = ((d.2.toNat * (x / d.2.toNat) : Nat) : Int) - ((c.2.toNat * (x / c.2.toNat) : Nat) : Int) by omega]
  exact Int.dvd_sub g2 g1
theorem cnt_zero {c : Int × Int} (hc : 0 ≤ c.1 ∧ c.1 < c.2) {x : Nat} (h : x % c.2.toNat = c.1.toNat) : ∀ (q : List (Int × Int)), rangeC q → (∀ d ∈ q, meetB c d = false) → cntC q x = 0
  | [], _, _ => rfl
  | d :: q, hr, ha => by
    have ih := cnt_zero hc h q (fun e hq => hr e (List.mem_cons_of_mem _ hq)) (fun e hq => ha e (List.mem_cons_of_mem _ hq))
    rw [cntC, ih, Nat.add_zero, indC, if_neg]
    intro h2
    have := both_meet hc (hr d List.mem_cons_self) h h2
    rw [ha d List.mem_cons_self] at this
    cases this
theorem cnt_one : ∀ (q : List (Int × Int)), rangeC q → apartC q → ∀ x, cntC q x ≤ 1
  | [], _, _, _ => Nat.zero_le _
  | c :: q, hr, ha, x => by
    have ha := List.pairwise_cons.1 ha
    have ih := cnt_one q (fun e hq => hr e (List.mem_cons_of_mem _ hq)) ha.2 x
    rw [cntC, indC]
    by_cases h : x % c.2.toNat = c.1.toNat
    · rw [if_pos h, cnt_zero (hr c List.mem_cons_self) h q (fun e hq => hr e (List.mem_cons_of_mem _ hq)) ha.1]
      exact Nat.le_refl _
    · rw [if_neg h]
      omega
theorem apart_dens {q : List (Int × Int)} (hr : rangeC q) (ha : apartC q) : sumG (lcmN 1 (q.map Prod.snd)) (q.map Prod.snd) ≤ lcmN 1 (q.map Prod.snd) := by
  rw [← sum_cntC q hr (fun c hc => dvd_lcmN _ _ _ (List.mem_map_of_mem hc))]
  exact sumN_le _ (cnt_one q hr ha) _
end Go.Proofs.Ytnmpjikiodnmnaa.Pure
end
section
namespace Go.Proofs.Ytnmpjikiodnmnaa.Pure
open Go.RowKit Go.Proofs.Ytnmpjikiodnmnaa.P Go.Proofs.YtnmpjikiodnmnaaW.PrintWords Go.Proofs.YtnmpjikiodnmnaaW.PrintLast Go.Proofs.YtnmpjikiodnmnaaW.PrintMore
set_option linter.unusedVariables false
set_option linter.unusedSimpArgs false
def fitB (G : List Int) : Bool := decide (∀ i, i < G.length → ∀ j, j < i → Nat.gcd (rd G (i : Int)).toNat (rd G (j : Int)).toNat ≠ 1)
end Go.Proofs.Ytnmpjikiodnmnaa.Pure
end
