/- Folded tasks served by turns are served by the divided turns, the gaps that turns serve are the least ones, and who asks more has greater gaps. -/
import Derived.Test.YtliepcfgcglcmaaGreatCFnFolding2

set_option maxRecDepth 100000
set_option maxHeartbeats 8000000
section
namespace Go.Proofs.YtliepcfgcglcmaaGreat.P
open Go.RowKit Go.Proofs.YtliepcfgcglcmaaGreatW.PrintWords Go.Proofs.YtliepcfgcglcmaaGreatW.PrintLast Go.Proofs.YtliepcfgcglcmaaGreatW.PrintMore
attribute [local go_sem] Kn Kj Ld Li Kb Ke Kl Km
set_option linter.unusedVariables false
set_option linter.unusedSimpArgs false
theorem q0z (A0 : Option Addr) (c0 : Nat) (l0 : List Int) (c : Nat) (w : World) (hr0 : Kd.C (Kd.int .i64) w A0 l0.length l0) (hc0 : l0.length ≤ c0) (hl : 1 ≤ l0.length ∧ l0.length ≤ 1024) (hcc : 1 ≤ c ∧ c ≤ 1024) :
    Calls Tryz.prog 48 #[.slice A0 l0.length c0, .int .i64 (c : Int)] w fun e w' => ∃ v0_ : Value, e = .returned (v0_) ∧ Kd.R (Kd.int .i64) 2 w' w.heap.size (fun _ => True) v0_ (List.replicate c l0).flatten ∧ Below w.heap.size w w' := by
    obtain ⟨ad, e1, _⟩ := Kd.Cv hr0 0 (by omega) (by omega)
    cases e1
    have hx0 : ∀ j : Nat, j < l0.length → w.cell? (ad.add j) = some (.int .i64 (rd l0 (j : Int))) := fun j hj => by
      obtain ⟨ad2, e2, h2⟩ := Kd.Cv hr0 (j : Int) (by omega) (by omega)
      cases e2
      rwa [Int.toNat_natCast] at h2
    obtain ⟨n, hn⟩ : ∃ n, n = c * l0.length := ⟨_, rfl⟩
    have hlen : (List.replicate c l0).flatten.length = n := by rw [hn]; simp
    have hvl : (vrep l0 c).length = n := by rw [Mv, hn]
    have h1n : l0.length ≤ n := by rw [hn]; exact Nat.le_mul_of_pos_left _ (by omega)
    have hNs : n < 4294967296 := by rw [hn]; exact Nat.lt_of_le_of_lt (Nat.mul_le_mul hcc.2 hl.2) (by decide)
    have hmul : Gp.f (l0.length : Int) (c : Int) = some (0, (n : Int)) := by rw [Ym l0.length c (by omega) (by omega), hn, Nat.mul_comm]
    have HN := Aa.mk hNs
    have HL := Aa.mk hl
    have H1N := Aa.mk h1n
    have HVL := Aa.mk hvl
    have HLEN := Aa.mk hlen
    have HNC0 := Aa.mk hn
    have HCC := Aa.mk hcc
    have HB := Aa.mk (Below.refl w.heap.size w)
    have HX := Aa.mk hx0
    have HM := Aa.mk (fun W : World => Gp.calls (l0.length : Int) (c : Int) _ _ W hmul)
    have k0 : IntKind.u64.wrap (l0.length : Int) = (l0.length : Int) := Pj _ (by omega)
    have k1 : decide ((c : Int) < 0) = false := decide_eq_false (by omega)
    have k2 : IntKind.u64.wrap (c : Int) = (c : Int) := Pj c (by omega)
    have k3 : wrap64 (n : Int) = (n : Int) := by unfold wrap64; omega
    have k4 : decide ((n : Int) > 9223372036854775807) = false := decide_eq_false (by omega)
    clear hr0 hc0 hl hcc hx0 hmul hn hlen hvl h1n hNs
    obtain ⟨i0, hi0, _, hsz0, _⟩ := info_parts Xy
    have hcutF : ∀ (W : World) (g cap j : Nat), j < n → n ≤ cap → (Instr.slice 24 (.slice (some ⟨g, 0, none⟩) n cap) (some (.int .i64 (j : Int))) none none).run Tryz.prog W = .ok (.slice (some ⟨g, j, none⟩) (n - j) (cap - j)) W := fun W g cap j h1 h2 => by
      have h := Qd (P := Tryz.prog) 24 2 .i64 Tryz.underlying24 hi0 1 hsz0 (some ⟨g, 0, none⟩) n cap (j : Int) (by omega) (by omega) W
      rw [Int.toNat_natCast, if_neg (by omega)] at h
      rw [h]
      simp [Addr.add]
      exact fun e => e.symm
    have hcutT : ∀ (W : World) (g cap j : Nat), j < n → n ≤ cap → (Instr.slice 24 (.slice (some ⟨g, 0, none⟩) n cap) none (some (.int .i64 (j : Int))) none).run Tryz.prog W = .ok (.slice (some ⟨g, 0, none⟩) j cap) W := fun W g cap j h1 h2 => by
      have h := Ri (P := Tryz.prog) 24 2 .i64 Tryz.underlying24 hi0 (some ⟨g, 0, none⟩) n cap (j : Int) (by omega) (by omega) h2 W
      rwa [Int.toNat_natCast] at h
    have hesz : (Tryz.prog.info? 2).map (·.size) = some 1 := by kernel_rfl
    have HCF := Aa.mk hcutF
    have HCT := Aa.mk hcutT
    clear hcutF hcutT
    have hn1 : 1 ≤ n := by have := HL.out; have := H1N.out; omega
    go_enter Tryz.func48, Tryz.ntmps48
    go_wp2_with (first
      | (go_at_call 75; refine (HM.out _).mono ?_; rintro e w' ⟨rfl, ⟨n0, rfl⟩⟩)
      | ((with_reducible refine Ay (N := 30) rfl ?_); go_loud (refine Kd.q0l (Kd.int .i64) (w0 := w) w.heap.size 2 rfl (N := 30) rfl 24 _ _ rfl (n : Int) (show Value.int .i64 (wrap64 (n : Int)) = Value.int .i64 (n : Int) by rw [k3]) (show Value.int .i64 (wrap64 (n : Int)) = Value.int .i64 (n : Int) by rw [k3]) Tryz.underlying24 (.int .i64 0) 8 Xy rfl (by decide) (by omega) 0 (ok := fun _ => True) (okp := fun _ => True) rfl (fun _ hk => hk) trivial (by omega) (by have := HN.out; omega) (Ef (Below.refl w.heap.size w) n0) (Nat.le_refl _) ?_; intro v7 w9 ho hb hg_ hnew_; rw [Int.toNat_natCast] at ho; obtain ⟨hq, hh⟩ := Kd.Qj ho; rcases hh with ⟨_, hz⟩ | ⟨g, cap, cur, rfl, hbg, hcur, hnc, hcm, hsz, htk⟩; (exfalso; rw [List.length_replicate] at hz; omega); rw [List.length_replicate] at hnc ⊢; have HG := Aa.mk hcur; have HBG := Aa.mk hbg; have HNC := Aa.mk hnc; have HCM := Aa.mk hcm; have HSZ := Aa.mk (show cur.size = cap by omega); have HB1 := Aa.mk hb; clear ho hb hg_ hnew_ hq hbg hcur hnc hcm hsz htk))
      | ((with_reducible refine Dp (b := .copy) (xs := #[.tmp 31, .tmp 32]) rfl ?_); go_loud (refine wpList_copy_splice rfl (.tmp 31) (.tmp 32) 24 24 rfl 2 Tryz.underlying24 hesz _ _ _ _ _ _ rfl rfl g 0 cur.toList 2 (by simpa using HG.out) (l0.map (Value.int .i64)) (show (l0.map (Value.int .i64)).length = min l0.length n by rw [List.length_map]; have := H1N.out; omega) (fun _ => ⟨rfl, ad, rfl, fun j v hj => ?aC⟩) (by rw [List.length_map]; have h5 : cur.toList.length = cur.size := Array.length_toList; have := HSZ.out; have := HNC.out; have := H1N.out; omega) (fun v hv => by obtain ⟨x, _, rfl⟩ := List.mem_map.1 hv; rfl) w.heap.size w HB1.out HBG.out ?_; (case aC => (have hi2 := (List.getElem?_eq_some_iff.1 hj).1; rw [List.length_map] at hi2; rw [List.getElem?_map, List.getElem?_eq_getElem hi2] at hj; obtain rfl := Option.some.inj hj; have hcell := HX.out j hi2; rw [q2M hi2] at hcell; exact Gu HB1.out hcell)); intro w10 hG hb10; have HG1 := Aa.mk hG; have HB2 := Aa.mk hb10; clear hG hb10)))
    go_loopg [8] (n + 1) (fun kq v8 w' => ∃ (j q : Nat) (cu : List Value), v8 = .int .i64 (j : Int) ∧ Aa (1 ≤ j ∧ j ≤ n ∧ n < kq + j ∧ j = q * l0.length ∧ q ≤ c) ∧ Aa (w'.heap[g]? = some (.cells cu.toArray 2 (0, 0))) ∧ Aa (cu.length = cap ∧ cu.take j = (vrep l0 c).take j) ∧ Aa (Below w.heap.size w w'))
    case atStart =>
      refine ⟨l0.length, 1, splice cur.toList 0 (l0.map (Value.int .i64)), rfl, ⟨by have := HL.out; have := H1N.out; have := HCC.out; omega⟩, HG1, ⟨?_, ?_⟩, HB2⟩
      · have h5 : cur.toList.length = cur.size := Array.length_toList
        rw [length_splice _ _ _ (by rw [List.length_map]; have := HSZ.out; have := HNC.out; have := H1N.out; omega), h5]; exact HSZ.out
      · have h1 := Sa (cur := cur.toList) (cs := l0.map (Value.int .i64)) (j := 0) (by omega)
        rw [Nat.zero_add, List.length_map, List.take_zero, List.nil_append] at h1
        rw [h1, Zv HCC.out.1]
    case round =>
        clear HG1 HB2 HB1 HG HSZ
        obtain ⟨j, q, cu, rfl, HJ, HG, HU, HB1⟩ := hrel
        by_cases hj : j < n
        · obtain ⟨k1, rfl⟩ : ∃ k1, gk = k1 + 1 := ⟨gk - 1, by have := HJ.out; omega⟩
          have d1 : decide ((j : Int) < (n : Int)) = true := decide_eq_true (by omega)
          have d2 : (j < n) = True := eq_true hj
          have hF := fun W => HCF.out W g cap j hj HNC.out
          have hT := fun W => HCT.out W g cap j hj HNC.out
          have HJN := Aa.mk hj
          have hml : ((vrep l0 c).take (min j (n - j))).length = min j (n - j) := by rw [List.length_take, HVL.out]; omega
          have HML := Aa.mk hml
          clear hj hml
          go_wp2
          have HB3 := Aa.mk (Bz HB1.out)
          have HG3 := Aa.mk (show wr.drew.heap[g]? = some (.cells cu.toArray 2 (0, 0)) from HG.out)
          clear HB1 HG
          refine Fg (n := 10) (S := fun w' => True) (ds := []) #[false,false,false,false,false,false,false,false,false,false] zk rfl rfl trivial (fun hHeld => ?_)
          generalize wr.drew = w3 at HB3 HG3 hHeld ⊢
          refine pU 0 38 ?_
          refine pU 1 39 ?_
          refine pU 2 40 ?_
          refine pU 3 41 ?_
          refine pU 4 42 ?_
          refine pU 5 43 ?_
          refine pU 6 44 ?_
          refine Fk (i := 7) (N := some 45) #[true,true,true,true,true,true,true,true,false,false] rfl rfl zk (by decide) (fun K hK => ?_)
          refine step_copy_splice rfl (.tmp 41) (.tmp 44) 24 24 rfl 2 Tryz.underlying24 hesz (some ⟨g, j, none⟩) (some ⟨g, 0, none⟩) (n - j) (cap - j) j cap rfl rfl g j cu 2 HG3.out ((vrep l0 c).take (min j (n - j))) (by rw [HML.out]) (fun _ => ⟨rfl, ⟨g, 0, none⟩, rfl, fun i v hi => ?aC⟩) (by rw [HML.out]; have := HU.out.1; have := HNC.out; have := HJN.out; omega) (fun v hv => q1N (List.mem_of_mem_take hv)) w.heap.size w HB3.out HBG.out ?_
          case aC =>
            have h2 := Au HG3.out i
            rw [List.getElem?_toArray, q0D HU.out.2 (Nat.min_le_left _ _) hi] at h2
            rw [show (⟨g, 0, none⟩ : Addr).add i = ⟨g, i, none⟩ by simp [Addr.add]; omega]
            exact h2
          intro w4 hg4 hb4
          have HG4 := Aa.mk hg4
          have HB4 := Aa.mk hb4
          clear hg4 hb4 HG3 HB3
          refine hK.out _ _ trivial (fun hHeld => ?_)
          clear hK K
          refine nT 45 ?_
          refine Fz (i := 8) (N := some 46) (v := .int .i64 (((j + min j (n - j) : Nat)) : Int)) (a' := ?_) #[true,true,true,true,true,true,true,true,true,false] rfl rfl zk (fun _ _ _ h => h) (Or.inl ⟨by rfl, ?_⟩) ?_ ?_
          · intro w'
            go_simp
            first | done | (simp only [Ec]; unfold wrap64; have := HN.out; have := HJN.out; have := HML.out; have := HVL.out; omega)
          rotate_left
          · simp only [Act.put, List.setIfInBounds_toArray, List.set_cons_zero, List.set_cons_succ, Ec, En]
            rfl
          refine pU 9 8 ?_
          refine Gf zk ?_
          try go_wp2
          go_roundg k1
          case measure => omega
          case rel =>
            have hJ := HJ.out
            have hJN := HJN.out
            have hML := HML.out
            have hn := HNC0.out
            have hq : q < c := Nat.lt_of_mul_lt_mul_right (a := l0.length) (by omega)
            have hcq : (c - q) * l0.length = n - j := by rw [Nat.sub_mul]; omega
            obtain ⟨q2, hq2, hq3⟩ : ∃ q2, j + min j (n - j) = q2 * l0.length ∧ q2 ≤ c := by
              by_cases hc : j ≤ n - j
              · refine ⟨q + q, by rw [Nat.add_mul]; omega, ?_⟩
                have h3 : (q + q) * l0.length ≤ c * l0.length := by rw [Nat.add_mul]; omega
                exact Nat.le_of_mul_le_mul_right h3 (by have := HL.out; omega)
              · exact ⟨c, by omega, Nat.le_refl _⟩
            refine ⟨j + min j (n - j), q2, splice cu j ((vrep l0 c).take (min j (n - j))), (by first | rfl | (rw [Int.natCast_add]) | simp), ⟨by omega⟩, ⟨HG4.out⟩, ⟨?_, ?_⟩, HB4⟩
            · rw [length_splice _ _ _ (by have := HU.out.1; have := HNC.out; omega)]; exact HU.out.1
            · have h1 := Sa (cur := cu) (cs := (vrep l0 c).take (min j (n - j))) (j := j) (by have := HU.out.1; have := HNC.out; omega)
              rw [hML] at h1
              have h4 := q1s l0 c q (min j (n - j)) (by omega) (by omega)
              rw [← hJ.2.2.2.1] at h4
              rw [h1, HU.out.2, h4]
        · have d1 : decide ((j : Int) < (n : Int)) = false := decide_eq_false (by omega)
          have d2 : (j < n) = False := eq_false hj
          have HJN := Aa.mk hj
          clear hj
          go_wp2
          go_ret
          obtain rfl : j = n := by have := HJ.out; have := HJN.out; omega
          have hll := HLEN.out
          refine ⟨_, rfl, Kd.Ql ⟨by simp [encs], .inr ⟨g, cap, cu.toArray, by rw [hll]; rfl, HBG.out, HG.out, by rw [hll]; exact HNC.out, HCM.out, by have := HU.out.1; simp; omega, ?_⟩⟩ (fun _ _ => trivial), HB1.out⟩
          rw [hll, Nat.mul_one]
          have h5 := HU.out.2
          rw [List.take_of_length_le (l := vrep l0 c) (by have := HVL.out; omega)] at h5
          simpa [encs, vrep, List.map_flatten] using h5
theorem Dr.calls (A0 : Option Addr) (c0 : Nat) (l0 : List Int) (a1 : Int) (r : List Int) (w : World) (hr0 : Kd.C (Kd.int .i64) w A0 l0.length l0) (hc0 : l0.length ≤ c0) (h : Dr.f l0 a1 = some r) :
    Calls Tryz.prog 48 #[.slice A0 l0.length c0, .int .i64 a1] w fun e w' => ∃ v0_ : Value, e = .returned (v0_) ∧ Kd.R (Kd.int .i64) 2 w' w.heap.size (fun _ => True) v0_ r ∧ Below w.heap.size w w' := by
  unfold Dr.f at h
  by_cases c1 : l0.length = 1 ∧ (0 ≤ a1 ∧ a1 < 4294967296)
  · rw [if_pos c1] at h
    obtain rfl := Option.some.inj h
    obtain ⟨hl, ha, hb⟩ := c1
    obtain ⟨x, rfl⟩ : ∃ x, l0 = [x] := List.length_eq_one_iff.1 hl
    obtain ⟨n, rfl⟩ : ∃ n : Nat, a1 = (n : Int) := ⟨a1.toNat, by omega⟩
    obtain ⟨ad, e1, hx0⟩ := Kd.Cv hr0 0 (by omega) (by simp)
    cases e1
    rw [show rd [x] 0 = x from rfl] at hx0 ⊢
    rw [Int.toNat_natCast]
    (try rw [show ((0 : Int)).toNat = 0 from rfl] at hx0)
    (try rw [Addr.add_zero'] at hx0)
    have HN := Aa.mk (show n < 4294967296 by omega)
    have HB := Aa.mk (Below.refl w.heap.size w)
    have HX := Aa.mk hx0
    have HM := Aa.mk (fun W : World => Gp.calls 1 (n : Int) _ _ W (q0U n (by omega)))
    have k1 : decide ((n : Int) < 0) = false := decide_eq_false (by omega)
    have k2 : IntKind.u64.wrap (n : Int) = (n : Int) := Pj n (by omega)
    have k3 : wrap64 (n : Int) = (n : Int) := by unfold wrap64; omega
    have k4 : decide ((n : Int) > 9223372036854775807) = false := decide_eq_false (by omega)
    clear hr0 hc0 h ha hb hl hx0
    obtain ⟨i0, hi0, _, hsz0, _⟩ := info_parts Xy
    have hcutF : ∀ (W : World) (g cap j : Nat), j < n → n ≤ cap → (Instr.slice 24 (.slice (some ⟨g, 0, none⟩) n cap) (some (.int .i64 (j : Int))) none none).run Tryz.prog W = .ok (.slice (some ⟨g, j, none⟩) (n - j) (cap - j)) W := fun W g cap j h1 h2 => by
      have h := Qd (P := Tryz.prog) 24 2 .i64 Tryz.underlying24 hi0 1 hsz0 (some ⟨g, 0, none⟩) n cap (j : Int) (by omega) (by omega) W
      rw [Int.toNat_natCast, if_neg (by omega)] at h
      rw [h]
      simp [Addr.add]
      exact fun e => e.symm
    have hcutT : ∀ (W : World) (g cap j : Nat), j < n → n ≤ cap → (Instr.slice 24 (.slice (some ⟨g, 0, none⟩) n cap) none (some (.int .i64 (j : Int))) none).run Tryz.prog W = .ok (.slice (some ⟨g, 0, none⟩) j cap) W := fun W g cap j h1 h2 => by
      have h := Ri (P := Tryz.prog) 24 2 .i64 Tryz.underlying24 hi0 (some ⟨g, 0, none⟩) n cap (j : Int) (by omega) (by omega) h2 W
      rwa [Int.toNat_natCast] at h
    have hesz : (Tryz.prog.info? 2).map (·.size) = some 1 := by kernel_rfl
    have HCF := Aa.mk hcutF
    have HCT := Aa.mk hcutT
    clear hcutF hcutT
    by_cases hn0 : n = 0
    · subst hn0
      go_enter Tryz.func48, Tryz.ntmps48
      go_wp2_with (first
        | (go_at_call 75; refine (HM.out _).mono ?_; rintro e w' ⟨rfl, ⟨n0, rfl⟩⟩)
        | ((with_reducible refine Ay (N := 30) rfl ?_); go_loud (refine Kd.q0l (Kd.int .i64) (w0 := w) w.heap.size 2 rfl (N := 30) rfl 24 _ _ rfl ((0 : Nat) : Int) rfl rfl Tryz.underlying24 (.int .i64 0) 8 Xy rfl (by decide) (by omega) 0 (ok := fun _ => True) (okp := fun _ => True) rfl (fun _ hk => hk) trivial (by omega) (by omega) (Ef (Below.refl w.heap.size w) n0) (Nat.le_refl _) ?_; intro v7 w9 ho hb hg_ hnew_; obtain ⟨A7, c7, e7⟩ := Kd.Bb ho; have HO := Aa.mk ho; have HB1 := Aa.mk hb; clear ho hb hg_ hnew_; rw [Int.toNat_natCast] at HO e7; subst e7))
        | ((with_reducible refine Dp (b := .copy) (xs := #[.tmp 31, .tmp 32]) rfl ?_); go_loud (refine wpList_copy_nothing rfl (.tmp 31) (.tmp 32) 24 24 rfl 2 Tryz.underlying24 hesz _ _ _ _ _ _ rfl rfl (by simp) ?_)))
      go_loopg [8] 1 (fun kq v8 w' => v8 = .int .i64 0 ∧ Aa (kq = 1) ∧ w' = w9)
      case atStart => exact ⟨rfl, ⟨rfl⟩, rfl⟩
      case round =>
        obtain ⟨rfl, HQ, rfl⟩ := hrel
        go_wp2
        go_ret
        exact ⟨_, rfl, HO.out, HB1.out⟩
    · go_enter Tryz.func48, Tryz.ntmps48
      go_wp2_with (first
        | (go_at_call 75; refine (HM.out _).mono ?_; rintro e w' ⟨rfl, ⟨n0, rfl⟩⟩)
        | ((with_reducible refine Ay (N := 30) rfl ?_); go_loud (refine Kd.q0l (Kd.int .i64) (w0 := w) w.heap.size 2 rfl (N := 30) rfl 24 _ _ rfl (n : Int) (show Value.int .i64 (wrap64 (n : Int)) = Value.int .i64 (n : Int) by rw [k3]) (show Value.int .i64 (wrap64 (n : Int)) = Value.int .i64 (n : Int) by rw [k3]) Tryz.underlying24 (.int .i64 0) 8 Xy rfl (by decide) (by omega) 0 (ok := fun _ => True) (okp := fun _ => True) rfl (fun _ hk => hk) trivial (by omega) (by have := HN.out; omega) (Ef (Below.refl w.heap.size w) n0) (Nat.le_refl _) ?_; intro v7 w9 ho hb hg_ hnew_; rw [Int.toNat_natCast] at ho; obtain ⟨hq, hh⟩ := Kd.Qj ho; rcases hh with ⟨_, hz⟩ | ⟨g, cap, cur, rfl, hbg, hcur, hnc, hcm, hsz, htk⟩; (exfalso; rw [List.length_replicate] at hz; omega); rw [List.length_replicate] at hnc ⊢; have HG := Aa.mk hcur; have HBG := Aa.mk hbg; have HNC := Aa.mk hnc; have HCM := Aa.mk hcm; have HSZ := Aa.mk (show cur.size = cap by omega); have HB1 := Aa.mk hb; clear ho hb hg_ hnew_ hq hbg hcur hnc hcm hsz htk))
        | ((with_reducible refine Dp (b := .copy) (xs := #[.tmp 31, .tmp 32]) rfl ?_); go_loud (refine wpList_copy_splice rfl (.tmp 31) (.tmp 32) 24 24 rfl 2 Tryz.underlying24 hesz _ _ _ _ _ _ rfl rfl g 0 cur.toList 2 (by simpa using HG.out) [.int .i64 x] (show (1 : Nat) = min 1 n by omega) (fun _ => ⟨rfl, ad, rfl, fun j v hj => ?aC⟩) (by simp; have := HSZ.out; have := HNC.out; omega) (by simp; rfl) w.heap.size w HB1.out HBG.out ?_; (case aC => (have hi2 := (List.getElem?_eq_some_iff.1 hj).1; simp only [List.length_cons, List.length_nil, Nat.zero_add, Nat.lt_one_iff] at hi2; subst hi2; obtain rfl := Option.some.inj hj; simpa [Addr.add] using Gu HB1.out HX.out)); intro w10 hG hb10; have HG1 := Aa.mk hG; have HB2 := Aa.mk hb10; clear hG hb10)))
      go_loopg [8] (n + 1) (fun kq v8 w' => ∃ (j : Nat) (cu : List Value), v8 = .int .i64 (j : Int) ∧ Aa (1 ≤ j ∧ j ≤ n ∧ n < kq + j) ∧ Aa (w'.heap[g]? = some (.cells cu.toArray 2 (0, 0))) ∧ Aa (cu.length = cap ∧ cu.take j = List.replicate j (.int .i64 x)) ∧ Aa (Below w.heap.size w w'))
      case atStart => exact ⟨1, splice cur.toList 0 [.int .i64 x], rfl, ⟨by omega⟩, HG1, ⟨by rw [length_splice _ _ _ (by simp; have := HSZ.out; have := HNC.out; omega)]; simp; exact HSZ.out, Tc (j := 0) (m := 1) (by simp) (by omega)⟩, HB2⟩
      case round =>
        clear HG1 HB2 HB1 HG HSZ
        obtain ⟨j, cu, rfl, HJ, HG, HU, HB1⟩ := hrel
        by_cases hj : j < n
        · obtain ⟨k1, rfl⟩ : ∃ k1, gk = k1 + 1 := ⟨gk - 1, by have := HJ.out; omega⟩
          have d1 : decide ((j : Int) < (n : Int)) = true := decide_eq_true (by omega)
          have d2 : (j < n) = True := eq_true hj
          have hF := fun W => HCF.out W g cap j hj HNC.out
          have hT := fun W => HCT.out W g cap j hj HNC.out
          have HJN := Aa.mk hj
          clear hj
          go_wp2
          have HB3 := Aa.mk (Bz HB1.out)
          have HG3 := Aa.mk (show wr.drew.heap[g]? = some (.cells cu.toArray 2 (0, 0)) from HG.out)
          clear HB1 HG
          refine Fg (n := 10) (S := fun w' => True) (ds := []) #[false,false,false,false,false,false,false,false,false,false] zk rfl rfl trivial (fun hHeld => ?_)
          generalize wr.drew = w3 at HB3 HG3 hHeld ⊢
          refine pU 0 38 ?_
          refine pU 1 39 ?_
          refine pU 2 40 ?_
          refine pU 3 41 ?_
          refine pU 4 42 ?_
          refine pU 5 43 ?_
          refine pU 6 44 ?_
          refine Fk (i := 7) (N := some 45) #[true,true,true,true,true,true,true,true,false,false] rfl rfl zk (by decide) (fun K hK => ?_)
          refine step_copy_splice rfl (.tmp 41) (.tmp 44) 24 24 rfl 2 Tryz.underlying24 hesz (some ⟨g, j, none⟩) (some ⟨g, 0, none⟩) (n - j) (cap - j) j cap rfl rfl g j cu 2 HG3.out (List.replicate (min j (n - j)) (.int .i64 x)) (by rw [List.length_replicate]) (fun _ => ⟨rfl, ⟨g, 0, none⟩, rfl, fun i v hi => ?aC⟩) (by rw [List.length_replicate]; have := HU.out.1; have := HNC.out; have := HJN.out; omega) (fun v hv => by rw [(List.mem_replicate.1 hv).2]; rfl) w.heap.size w HB3.out HBG.out ?_
          case aC =>
            have hi2 := (List.getElem?_eq_some_iff.1 hi).1
            rw [List.length_replicate] at hi2
            have hv : (Value.int .i64 x) = v := by
              have := hi
              rw [List.getElem?_replicate, if_pos hi2] at this
              exact Option.some.inj this
            subst hv
            have h2 := Au HG3.out i
            rw [List.getElem?_toArray, q1m HU.out.2 (by omega)] at h2
            rw [show (⟨g, 0, none⟩ : Addr).add i = ⟨g, i, none⟩ by simp [Addr.add]; omega]
            exact h2
          intro w4 hg4 hb4
          have HG4 := Aa.mk hg4
          have HB4 := Aa.mk hb4
          clear hg4 hb4 HG3 HB3
          refine hK.out _ _ trivial (fun hHeld => ?_)
          clear hK K
          refine nT 45 ?_
          refine Fz (i := 8) (N := some 46) (v := .int .i64 (((j + min j (n - j) : Nat)) : Int)) (a' := ?_) #[true,true,true,true,true,true,true,true,true,false] rfl rfl zk (fun _ _ _ h => h) (Or.inl ⟨by rfl, ?_⟩) ?_ ?_
          · intro w'
            go_simp
            first | done | (simp only [Ec]; unfold wrap64; have := HN.out; have := HJN.out; omega)
          rotate_left
          · simp only [Act.put, List.setIfInBounds_toArray, List.set_cons_zero, List.set_cons_succ, Ec, En]
            rfl
          refine pU 9 8 ?_
          refine Gf zk ?_
          try go_wp2
          go_roundg k1
          case measure => omega
          case rel => exact ⟨j + min j (n - j), splice cu j (List.replicate (min j (n - j)) (.int .i64 x)), (by first | rfl | (rw [Int.natCast_add]) | simp), ⟨by have := HJ.out; have := HJN.out; omega⟩, ⟨HG4.out⟩, ⟨by rw [length_splice _ _ _ (by have := HU.out.1; have := HNC.out; have := HJN.out; rw [List.length_replicate]; omega)]; exact HU.out.1, Tc HU.out.2 (by have := HU.out.1; have := HNC.out; have := HJN.out; omega)⟩, HB4⟩
        · have d1 : decide ((j : Int) < (n : Int)) = false := decide_eq_false (by omega)
          have d2 : (j < n) = False := eq_false hj
          have HJN := Aa.mk hj
          clear hj
          go_wp2
          go_ret
          obtain rfl : j = n := by have := HJ.out; have := HJN.out; omega
          refine ⟨_, rfl, Kd.Ql ⟨by simp [encs], .inr ⟨g, cap, cu.toArray, by rw [List.length_replicate]; rfl, HBG.out, HG.out, by rw [List.length_replicate]; exact HNC.out, HCM.out, by have := HU.out.1; simp; omega, ?_⟩⟩ (fun _ _ => trivial), HB1.out⟩
          rw [List.length_replicate, Nat.mul_one]
          have := HU.out.2
          simpa [encs] using this
  · rw [if_neg c1] at h
    by_cases c2 : (1 ≤ l0.length ∧ l0.length ≤ 1024) ∧ (1 ≤ a1 ∧ a1 ≤ 1024)
    · rw [if_pos c2] at h
      obtain rfl := Option.some.inj h
      obtain ⟨n, rfl⟩ : ∃ n : Nat, a1 = (n : Int) := ⟨a1.toNat, by omega⟩
      rw [Int.toNat_natCast]
      exact q0z A0 c0 l0 n w hr0 hc0 c2.1 (by omega)
    · rw [if_neg c2] at h
      exact absurd h (by simp)
def Cu.l0 : Nat → Int → Int → Option (Int)
 | 0, _, _ => none
 | k + 1, x0, x1 => if x1 = 0 then (some x0) else (Cu.l0 k x1 (Int.tmod x0 x1))
def Cu.f (k : Nat) (a0 : Int) (a1 : Int) : Option (Int) := Cu.l0 k a0 a1
theorem Cu.mono_l : ∀ k, (∀ y0 y1, LeO (Cu.l0 k y0 y1) (Cu.l0 (k + 1) y0 y1))
 | 0 => fun _ _ r h => by simp [Cu.l0] at h
 | k + 1 => by
  have ih0 := Cu.mono_l k
  ·
   intro y0 y1
   unfold Cu.l0
   repeat' first | (with_reducible first | exact ih0 _ _ | exact LeO.refl _ | exact LeO.none _ | refine LeO.ite ?_ ?_ | refine LeO.bind ?_ (fun _ => ?_)) | exact ih0 _ _ | exact LeO.none _ | refine LeO.ite ?_ ?_ | refine LeO.bind ?_ (fun _ => ?_)
theorem Cu.mono : ∀ a0 a1 k, LeO (Cu.f k a0 a1) (Cu.f (k + 1) a0 a1) := by
 intro a0 a1 k
 have ih0 := Cu.mono_l k
 unfold Cu.f
 repeat' first | (with_reducible first | exact ih0 _ _ | exact LeO.refl _ | exact LeO.none _ | refine LeO.ite ?_ ?_ | refine LeO.bind ?_ (fun _ => ?_)) | exact ih0 _ _ | exact LeO.none _ | refine LeO.ite ?_ ?_ | refine LeO.bind ?_ (fun _ => ?_)
theorem Cu.calls (k : Nat) (a0 : Int) (a1 : Int) (r : Int) (w : World) (h : Cu.f k a0 a1 = some r) :
    Calls Tryz.prog 46 #[.int .i64 a0, .int .i64 a1] w fun e w' => e = .returned (.int .i64 r) ∧ Ct w w' := by
 have H := h
 clear h
 unfold Cu.f at H
 have H' := Aa.mk H
 clear H
 go_enter Tryz.func46, Tryz.ntmps46
 go_wp2
 repeat (go_quiet (fail); try go_wp2)
 go_loopg [0, 1] k (fun kq v0 v1 w' => ∃ (x0_1 : Int) (x1_1 : Int), v0 = .int .i64 x0_1 ∧ v1 = .int .i64 x1_1 ∧ Aa (Cu.l0 kq x0_1 x1_1 = some r) ∧ Aa (kq ≤ k) ∧ Ct w w')
 case atStart => exact ⟨(a0), (a1), zF, zF, H', ⟨Nat.le_refl _⟩, by repeat (first | exact Ct.refl _ | apply Ct.step)⟩
 clear H'
 obtain ⟨x0_1, x1_1, rfl, rfl, HA, HK1, ⟨m1, rfl⟩⟩ := hrel
 cases gk with
 | zero => exact absurd HA.out (by simp [Cu.l0])
 | succ k1 =>
  have H := HA.out
  clear HA
  simp only [Cu.l0] at H
  by_cases c3 : x1_1 = 0
  ·
   rw [if_pos c3] at H
   have c3b0 : (x1_1 == 0) = true := beq_iff_eq.mpr c3
   have c3b1 : (x1_1 != 0) = false := bne_eq_false_iff_eq.mpr c3
   clear c3
   obtain rfl := Option.some.inj H
   go_wp2
   repeat (go_quiet (fail); try go_wp2)
   go_ret
   exact ⟨by first | rfl | (simp; done) | (simp [*]; done), by repeat (first | exact Ct.refl _ | apply Ct.step)⟩
  rw [if_neg c3] at H
  have c3b0 : (x1_1 == 0) = false := beq_eq_false_iff_ne.mpr c3
  have c3b1 : (x1_1 != 0) = true := bne_iff_ne.mpr c3
  have H' := Aa.mk H
  clear H
  go_wp2
  repeat (go_quiet (fail); try go_wp2)
  go_roundg k1
  case measure => have := HK1.out; omega
  case rel => exact ⟨(x1_1), (Int.tmod x0_1 x1_1), zF, zF, H', ⟨by have := HK1.out; omega⟩, by repeat (first | exact Ct.refl _ | apply Ct.step)⟩
def Az.l0 : Nat → List Int → Int → Int → Option (Int)
 | 0, _, _, _ => none
 | k + 1, x0, x3, x4 => if x4 < (x0.length : Int) then (if 0 ≤ x4 then (Az.l0 k x0 (mx x3 (rd x0 x4)) (wrap64 (x4 + 1))) else (none)) else (some x3)
def Az.f (k : Nat) (l0 : List Int) : Option (Int) := if (l0.length : Int) < 1 then (none) else (if 0 < (l0.length : Int) then (Az.l0 k l0 (rd l0 0) 1) else (none))
theorem Az.mono_l : ∀ k, (∀ y0 y1 y2, LeO (Az.l0 k y0 y1 y2) (Az.l0 (k + 1) y0 y1 y2))
 | 0 => fun _ _ _ r h => by simp [Az.l0] at h
 | k + 1 => by
  have ih0 := Az.mono_l k
  ·
   intro y0 y1 y2
   unfold Az.l0
   repeat' first | (with_reducible first | exact ih0 _ _ _ | exact LeO.refl _ | exact LeO.none _ | refine LeO.ite ?_ ?_ | refine LeO.bind ?_ (fun _ => ?_)) | exact ih0 _ _ _ | exact LeO.none _ | refine LeO.ite ?_ ?_ | refine LeO.bind ?_ (fun _ => ?_)
theorem Az.mono : ∀ a0 k, LeO (Az.f k a0) (Az.f (k + 1) a0) := by
 intro a0 k
 have ih0 := Az.mono_l k
 unfold Az.f
 repeat' first | (with_reducible first | exact ih0 _ _ _ | exact LeO.refl _ | exact LeO.none _ | refine LeO.ite ?_ ?_ | refine LeO.bind ?_ (fun _ => ?_)) | exact ih0 _ _ _ | exact LeO.none _ | refine LeO.ite ?_ ?_ | refine LeO.bind ?_ (fun _ => ?_)
theorem Az.calls (k : Nat) (A0 : Option Addr) (c0 : Nat) (l0 : List Int) (r : Int) (w : World) (hr0 : Kd.C (Kd.int .i64) w A0 l0.length l0) (hc0 : l0.length ≤ c0) (h : Az.f k l0 = some r) :
    Calls Tryz.prog 45 #[.slice A0 l0.length c0] w fun e w' => e = .returned (.int .i64 r) ∧ Below w.heap.size w w' := by
 have HR0 := Aa.mk hr0
 have HC0 := Aa.mk hc0
 clear hr0 hc0
 have HB := Aa.mk (Below.refl w.heap.size w)
 have H := h
 clear h
 unfold Az.f at H
 by_cases c2 : (l0.length : Int) < 1
 ·
  rw [if_pos c2] at H
  exact absurd H (by simp)
 rw [if_neg c2] at H
 have c2b0 := decide_eq_false c2
 have c2b1 : decide (l0.length < 1) = false := decide_eq_false (by omega)
 clear c2
 by_cases c3 : 0 < (l0.length : Int)
 case neg => rw [if_neg c3] at H; exact absurd H (by simp)
 rw [if_pos c3] at H
 have c3b0 := decide_eq_true c3
 have c3b1 : decide (0 < l0.length) = true := decide_eq_true (by omega)
 clear c3
 have H' := Aa.mk H
 clear H
 have p101 : 0 ≤ (0 : Int) := (by omega)
 have q101 : 0 < (l0.length : Int) := zD
 obtain ⟨ad101, e101, hx101_0⟩ := Kd.Cv HR0.out 0 p101 q101
 cases e101
 have qi101 : (0 < l0.length) = True := eq_true (by omega)
 (try rw [show ((0 : Int)).toNat = 0 from rfl] at hx101_0)
 (try rw [Addr.add_zero'] at hx101_0)
 replace p101 := eq_true p101
 replace q101 := eq_true q101
 go_enter Tryz.func45, Tryz.ntmps45
 go_wp2
 go_loopg [3, 4] k (fun kq v3 v4 w' => ∃ (x3_1 : Int) (x4_1 : Int), v3 = .int .i64 x3_1 ∧ v4 = .int .i64 x4_1 ∧ Aa (Az.l0 kq l0 x3_1 x4_1 = some r) ∧ Aa (kq ≤ k) ∧ Aa (Below w.heap.size w w'))
 case atStart => exact ⟨(rd l0 0), (1), zF, zF, H', ⟨Nat.le_refl _⟩, ⟨zB⟩⟩
 clear H'
 try clear c2
 try clear c2b0
 try clear c2b1
 try clear c3
 try clear c3b0
 try clear c3b1
 try clear hx101_0
 try clear p101
 try clear q101
 obtain ⟨x3_1, x4_1, rfl, rfl, HA, HK1, HB⟩ := hrel
 cases gk with
 | zero => exact absurd HA.out (by simp [Az.l0])
 | succ k1 =>
  have H := HA.out
  clear HA
  simp only [Az.l0] at H
  by_cases c4 : x4_1 < (l0.length : Int)
  case neg =>
   rw [if_neg c4] at H
   have c4b0 := decide_eq_false c4
   clear c4
   obtain rfl := Option.some.inj H
   go_wp2
   go_ret
   exact ⟨zE, zB⟩
  rw [if_pos c4] at H
  have c4b0 := decide_eq_true c4
  clear c4
  by_cases c5 : 0 ≤ x4_1
  case neg => rw [if_neg c5] at H; exact absurd H (by simp)
  rw [if_pos c5] at H
  have c5b0 := decide_eq_true c5
  clear c5
  obtain ⟨ji6, hji6⟩ : ∃ j_ : Int, (mx x3_1 (rd l0 x4_1)) = j_ := ⟨_, rfl⟩
  replace H : (Az.l0 k1 l0 ji6 (wrap64 (x4_1 + 1))) = some r := by first | (rw [hji6] at H; exact H) | (simp only [hji6] at H ⊢; exact H)
  have hji6_ : (if x3_1 < (rd l0 x4_1) then (rd l0 x4_1) else x3_1) = ji6 := hji6
  have H' := Aa.mk H
  clear H
  have p102 : 0 ≤ (x4_1 : Int) := zD
  have q102 : x4_1 < (l0.length : Int) := zD
  obtain ⟨ad102, e102, hx102_0⟩ := Kd.Cv HR0.out x4_1 p102 q102
  obtain rfl : ad101 = ad102 := (by injection e102)
  replace hx102_0 := (HB.out.cell (World.block_lt_of_cell? w _ hx102_0)).trans hx102_0
  replace p102 := eq_true p102
  replace q102 := eq_true q102
  go_wp2
  go_roundg k1
  case measure => have := HK1.out; omega
  case rel => exact ⟨(ji6), (wrap64 (x4_1 + 1)), (by first | rfl | (simp; done) | (simp only [← hji6] <;> (first | rfl | simp)) | (simp [*]; done)), zF, H', ⟨by have := HK1.out; omega⟩, ⟨zB⟩⟩
def Eg.l0 : Nat → Int → Int → List Int → Int → Int → Option (Int)
 | 0, _, _, _, _, _ => none
 | k + 1, x1, x5, x8, x9, x10 => if x10 < x9 then (if 0 ≤ x10 then (if x10 < (x8.length : Int) then (if (rd x8 x10) = x1 then (Eg.l0 k x1 (wrap64 (x5 + 1)) x8 x9 (wrap64 (x10 + 1))) else (Eg.l0 k x1 x5 x8 x9 (wrap64 (x10 + 1)))) else (none)) else (none)) else (some x5)
def Eg.f (k : Nat) (l0 : List Int) (a1 : Int) : Option (Int) := Eg.l0 k a1 0 l0 (l0.length : Int) 0
theorem Eg.mono_l : ∀ k, (∀ y0 y1 y2 y3 y4, LeO (Eg.l0 k y0 y1 y2 y3 y4) (Eg.l0 (k + 1) y0 y1 y2 y3 y4))
 | 0 => fun _ _ _ _ _ r h => by simp [Eg.l0] at h
 | k + 1 => by
  have ih0 := Eg.mono_l k
  ·
   intro y0 y1 y2 y3 y4
   unfold Eg.l0
   repeat' first | (with_reducible first | exact ih0 _ _ _ _ _ | exact LeO.refl _ | exact LeO.none _ | refine LeO.ite ?_ ?_ | refine LeO.bind ?_ (fun _ => ?_)) | exact ih0 _ _ _ _ _ | exact LeO.none _ | refine LeO.ite ?_ ?_ | refine LeO.bind ?_ (fun _ => ?_)
theorem Eg.mono : ∀ a0 a1 k, LeO (Eg.f k a0 a1) (Eg.f (k + 1) a0 a1) := by
 intro a0 a1 k
 have ih0 := Eg.mono_l k
 unfold Eg.f
 repeat' first | (with_reducible first | exact ih0 _ _ _ _ _ | exact LeO.refl _ | exact LeO.none _ | refine LeO.ite ?_ ?_ | refine LeO.bind ?_ (fun _ => ?_)) | exact ih0 _ _ _ _ _ | exact LeO.none _ | refine LeO.ite ?_ ?_ | refine LeO.bind ?_ (fun _ => ?_)
theorem Eg.calls (k : Nat) (A0 : Option Addr) (c0 : Nat) (l0 : List Int) (a1 : Int) (r : Int) (w : World) (hr0 : Kd.C (Kd.int .i64) w A0 l0.length l0) (hc0 : l0.length ≤ c0) (h : Eg.f k l0 a1 = some r) :
    Calls Tryz.prog 44 #[.slice A0 l0.length c0, .int .i64 a1] w fun e w' => e = .returned (.int .i64 r) ∧ Ct w w' := by
 have HR0 := Aa.mk hr0
 have HC0 := Aa.mk hc0
 clear hr0 hc0
 have H := h
 clear h
 unfold Eg.f at H
 have H' := Aa.mk H
 clear H
 go_enter Tryz.func44, Tryz.ntmps44
 go_wp2
 go_loopg [5, 10] k (fun kq v5 v10 w' => ∃ (x5_1 : Int) (x10_1 : Int), v5 = .int .i64 x5_1 ∧ v10 = .int .i64 x10_1 ∧ Aa (Eg.l0 kq a1 x5_1 l0 (l0.length : Int) x10_1 = some r) ∧ Aa (kq ≤ k) ∧ Ct w w')
 case atStart => exact ⟨(0), (0), zF, zF, H', ⟨Nat.le_refl _⟩, by repeat (first | exact Ct.refl _ | apply Ct.step)⟩
 clear H'
 obtain ⟨x5_1, x10_1, rfl, rfl, HA, HK1, ⟨m1, rfl⟩⟩ := hrel
 cases gk with
 | zero => exact absurd HA.out (by simp [Eg.l0])
 | succ k1 =>
  have H := HA.out
  clear HA
  simp only [Eg.l0] at H
  by_cases c3 : x10_1 < (l0.length : Int)
  case neg =>
   rw [if_neg c3] at H
   have c3b0 := decide_eq_false c3
   clear c3
   obtain rfl := Option.some.inj H
   go_wp2
   go_ret
   exact ⟨by first | rfl | (simp; done) | (simp [*]; done), by repeat (first | exact Ct.refl _ | apply Ct.step)⟩
  rw [if_pos c3] at H
  have c3b0 := decide_eq_true c3
  clear c3
  by_cases c4 : 0 ≤ x10_1
  case neg => rw [if_neg c4] at H; exact absurd H (by simp)
  rw [if_pos c4] at H
  have c4b0 := decide_eq_true c4
  clear c4
  by_cases c5 : x10_1 < (l0.length : Int)
  case neg => rw [if_neg c5] at H; exact absurd H (by simp)
  rw [if_pos c5] at H
  have c5b0 := decide_eq_true c5
  clear c5
  by_cases c6 : (rd l0 x10_1) = a1
  ·
   rw [if_pos c6] at H
   have c6b0 : ((rd l0 x10_1) == a1) = true := beq_iff_eq.mpr c6
   have c6b1 : ((rd l0 x10_1) != a1) = false := bne_eq_false_iff_eq.mpr c6
   clear c6
   have H' := Aa.mk H
   clear H
   have p101 : 0 ≤ (x10_1 : Int) := zD
   have q101 : x10_1 < (l0.length : Int) := zD
   obtain ⟨ad101, e101, hx101_0⟩ := Kd.Cv HR0.out x10_1 p101 q101
   cases e101
   replace p101 := eq_true p101
   replace q101 := eq_true q101
   go_wp2
   go_roundg k1
   case measure => have := HK1.out; omega
   case rel => exact ⟨(wrap64 (x5_1 + 1)), (wrap64 (x10_1 + 1)), zF, zF, H', ⟨by have := HK1.out; omega⟩, by repeat (first | exact Ct.refl _ | apply Ct.step)⟩
  rw [if_neg c6] at H
  have c6b0 : ((rd l0 x10_1) == a1) = false := beq_eq_false_iff_ne.mpr c6
  have c6b1 : ((rd l0 x10_1) != a1) = true := bne_iff_ne.mpr c6
  have H' := Aa.mk H
  clear H
  have p101 : 0 ≤ (x10_1 : Int) := zD
  have q101 : x10_1 < (l0.length : Int) := zD
  obtain ⟨ad101, e101, hx101_0⟩ := Kd.Cv HR0.out x10_1 p101 q101
  cases e101
  replace p101 := eq_true p101
  replace q101 := eq_true q101
  go_wp2
  go_roundg k1
  case measure => have := HK1.out; omega
  case rel => exact ⟨(x5_1), (wrap64 (x10_1 + 1)), zF, zF, H', ⟨by have := HK1.out; omega⟩, by repeat (first | exact Ct.refl _ | apply Ct.step)⟩
def Ki (x last m : Int) : List Int → Int → List Int
 | [], _ => []
 | y :: l, k => if y = x then (if 0 < k then wrap64 (last + k) else y) :: Ki x last m l (Int.tmod (wrap64 (k + 1)) m) else y :: Ki x last m l k
def Dm.f (k : Nat) (l0 : List Int) (a1 a2 : Int) : Option (List Int × Int) :=
 (Gs.f l0 8).bind fun b1 => if b1 = true then (Es.f a1 0 7).bind fun b2 => if b2 = true then (Es.f a2 2 8).bind fun b3 => if b3 = true then
  (Eg.f k l0 a1).bind fun own => (Az.f k l0).bind fun last => if own = 0 then some ([], 4) else
  (Cu.f k own a2).bind fun d => if d = 0 ∨ a2 = 0 then none else
  if 8 ≤ wrap64 (wrap64 (last + a2) - 1) then some ([], 3) else if 120 < wrap64 (wrap64 (Int.tdiv a2 d) * (l0.length : Int)) then some ([], 3) else
  (Dr.f l0 (wrap64 (Int.tdiv a2 d))).bind fun X => if 0 < X.length ∧ X.length ≤ 1000 then some (Ki a1 last a2 X 0, 0) else none
  else some ([], 2) else some ([], 2) else some ([], 2)
theorem Dm.mono : ∀ a0 a1 a2 k, LeO (Dm.f k a0 a1 a2) (Dm.f (k + 1) a0 a1 a2) := by
 intro a0 a1 a2 k
 unfold Dm.f
 refine LeO.bind (LeO.refl _) fun b1 => LeO.ite (LeO.bind (LeO.refl _) fun b2 => LeO.ite (LeO.bind (LeO.refl _) fun b3 => LeO.ite ?_ (LeO.refl _)) (LeO.refl _)) (LeO.refl _)
 exact LeO.bind (Eg.mono _ _ _) fun own => LeO.bind (Az.mono _ _) fun last => LeO.ite (LeO.refl _) (LeO.bind (Cu.mono _ _ _) fun d => LeO.refl _)
theorem q1G (x last m : Int) (l : List Int) (i : Nat) (hi : i < l.length) (k : Int) : Ki x last m (l.drop i) k = if rd l (i : Int) = x then (if 0 < k then wrap64 (last + k) else rd l (i : Int)) :: Ki x last m (l.drop (i + 1)) (Int.tmod (wrap64 (k + 1)) m) else rd l (i : Int) :: Ki x last m (l.drop (i + 1)) k := by
 have e : rd l (i : Int) = l[i] := by simp [rd, hi]
 rw [List.drop_eq_getElem_cons hi, Ki, e]
theorem Dm.calls (k : Nat) (A0 : Option Addr) (c0 : Nat) (l0 : List Int) (a1 : Int) (a2 : Int) (r1 : List Int) (r2 : Int) (w : World) (hr0 : Kd.C (Kd.int .i64) w A0 l0.length l0) (hc0 : l0.length ≤ c0) (h : Dm.f k l0 a1 a2 = some (r1, r2)) :
    Calls Tryz.prog 10 #[.slice A0 l0.length c0, .int .i64 a1, .int .i64 a2] w fun e w' => ∃ v0_ : Value, e = .returned (.tuple #[v0_, .int .i64 r2]) ∧ Kd.R (Kd.int .i64) 2 w' w.heap.size (fun _ => True) v0_ r1 ∧ Below w.heap.size w w' := by
  have HB := Aa.mk (Below.refl w.heap.size w)
  have HLM := Aa.mk (show l0.length ≤ 9223372036854775807 from hr0.2.1)
  unfold Dm.f at h
  obtain ⟨b1, e1, h_⟩ := Option.bind_eq_some_iff.mp h
  clear h
  have E1 := Aa.mk (fun W (hb : Below w.heap.size w W) => Gs.calls A0 c0 l0 8 b1 W (Kd.Bh hr0 hb) hc0 e1)
  clear e1
  cases b1 with
  | false =>
    rw [if_neg (by decide)] at h_
    simp only [Option.some.injEq, Prod.mk.injEq] at h_
    obtain ⟨rfl, rfl⟩ := h_
    try clear hr0 hc0
    go_enter Tryz.func10, Tryz.ntmps10
    go_wp2_with (first | (go_at_call 42; refine (E1.out _ HB.out).mono ?_; rintro e w_1 ⟨rfl, hb⟩; have n_ := Aa.mk (Ab HB.out hb); clear HB; have HB := n_; clear n_; clear hb))
    go_ret2
    exact ⟨_, rfl, Kd.Pa _ _ _ _ _, HB.out⟩
  | true =>
    rw [if_pos rfl] at h_
    obtain ⟨b2, e2, h⟩ := Option.bind_eq_some_iff.mp h_
    clear h_
    have E2 := Aa.mk (fun W => Es.calls a1 0 7 b2 W e2)
    clear e2
    cases b2 with
    | false =>
      rw [if_neg (by decide)] at h
      have h_ := h
      clear h
      simp only [Option.some.injEq, Prod.mk.injEq] at h_
      obtain ⟨rfl, rfl⟩ := h_
      try clear hr0 hc0
      go_enter Tryz.func10, Tryz.ntmps10
      go_wp2_with (first | (go_at_call 42; refine (E1.out _ HB.out).mono ?_; rintro e w_1 ⟨rfl, hb⟩; have n_ := Aa.mk (Ab HB.out hb); clear HB; have HB := n_; clear n_; clear hb) | (go_at_call 43; (with_reducible refine (E2.out _).mono ?_); rintro e w_2 ⟨rfl, hb0⟩; have hb := hb0.below; clear hb0; have n_ := Aa.mk (Ab HB.out hb); clear HB; have HB := n_; clear n_; clear hb))
      go_ret2
      exact ⟨_, rfl, Kd.Pa _ _ _ _ _, HB.out⟩
    | true =>
      rw [if_pos rfl] at h
      obtain ⟨b3, e3, h_⟩ := Option.bind_eq_some_iff.mp h
      clear h
      have E3 := Aa.mk (fun W => Es.calls a2 2 8 b3 W e3)
      clear e3
      cases b3 with
      | false =>
        rw [if_neg (by decide)] at h_
        simp only [Option.some.injEq, Prod.mk.injEq] at h_
        obtain ⟨rfl, rfl⟩ := h_
        try clear hr0 hc0
        go_enter Tryz.func10, Tryz.ntmps10
        go_wp2_with (first | (go_at_call 42; refine (E1.out _ HB.out).mono ?_; rintro e w_1 ⟨rfl, hb⟩; have n_ := Aa.mk (Ab HB.out hb); clear HB; have HB := n_; clear n_; clear hb) | (go_at_call 43; (with_reducible refine (E2.out _).mono ?_); rintro e w_2 ⟨rfl, hb0⟩; have hb := hb0.below; clear hb0; have n_ := Aa.mk (Ab HB.out hb); clear HB; have HB := n_; clear n_; clear hb) | (go_at_call 43; (with_reducible refine (E3.out _).mono ?_); rintro e w_3 ⟨rfl, hb0⟩; have hb := hb0.below; clear hb0; have n_ := Aa.mk (Ab HB.out hb); clear HB; have HB := n_; clear n_; clear hb))
        go_ret2
        exact ⟨_, rfl, Kd.Pa _ _ _ _ _, HB.out⟩
      | true =>
        rw [if_pos rfl] at h_
        obtain ⟨own, e4, h⟩ := Option.bind_eq_some_iff.mp h_
        clear h_
        obtain ⟨last, e5, h_⟩ := Option.bind_eq_some_iff.mp h
        clear h
        have E4 := Aa.mk (fun W (hb : Below w.heap.size w W) => Eg.calls k A0 c0 l0 a1 own W (Kd.Bh hr0 hb) hc0 e4)
        have E5 := Aa.mk (fun W (hb : Below w.heap.size w W) => Az.calls k A0 c0 l0 last W (Kd.Bh hr0 hb) hc0 e5)
        clear e4 e5
        by_cases q0 : own = 0
        · rw [if_pos q0] at h_
          subst q0
          simp only [Option.some.injEq, Prod.mk.injEq] at h_
          obtain ⟨rfl, rfl⟩ := h_
          try clear hr0 hc0
          go_enter Tryz.func10, Tryz.ntmps10
          go_wp2_with (first | (go_at_call 42; refine (E1.out _ HB.out).mono ?_; rintro e w_1 ⟨rfl, hb⟩; have n_ := Aa.mk (Ab HB.out hb); clear HB; have HB := n_; clear n_; clear hb) | (go_at_call 43; (with_reducible refine (E2.out _).mono ?_); rintro e w_2 ⟨rfl, hb0⟩; have hb := hb0.below; clear hb0; have n_ := Aa.mk (Ab HB.out hb); clear HB; have HB := n_; clear n_; clear hb) | (go_at_call 43; (with_reducible refine (E3.out _).mono ?_); rintro e w_3 ⟨rfl, hb0⟩; have hb := hb0.below; clear hb0; have n_ := Aa.mk (Ab HB.out hb); clear HB; have HB := n_; clear n_; clear hb) | (go_at_call 44; refine (E4.out _ HB.out).mono ?_; rintro e w_4 ⟨rfl, hb0⟩; have hb := hb0.below; clear hb0; have n_ := Aa.mk (Ab HB.out hb); clear HB; have HB := n_; clear n_; clear hb) | (go_at_call 45; refine (E5.out _ HB.out).mono ?_; rintro e w_5 ⟨rfl, hb⟩; have n_ := Aa.mk (Ab HB.out hb); clear HB; have HB := n_; clear n_; clear hb))
          go_ret2
          exact ⟨_, rfl, Kd.Pa _ _ _ _ _, HB.out⟩
        · rw [if_neg q0] at h_
          obtain ⟨d, e6, h⟩ := Option.bind_eq_some_iff.mp h_
          clear h_
          have E6 := Aa.mk (fun W => Cu.calls k own a2 d W e6)
          have E7 := Aa.mk (fun W (hb : Below w.heap.size w W) => Fe.calls A0 c0 l0 (l0.length : Int) W (Kd.Bh hr0 hb) hc0 rfl)
          have q1 : (own == 0) = false := beq_eq_false_iff_ne.mpr q0
          clear e6
          by_cases q2 : d = 0 ∨ a2 = 0
          · rw [if_pos q2] at h
            cases h
          rw [if_neg q2] at h
          have q2a : ¬ d = 0 := fun e => q2 (.inl e)
          have q2b : ¬ a2 = 0 := fun e => q2 (.inr e)
          have q3 := eq_false q2a
          have q4 := eq_false q2b
          by_cases g1 : 8 ≤ wrap64 (wrap64 (last + a2) - 1)
          · rw [if_pos g1] at h
            have g1a : decide (8 ≤ wrap64 (wrap64 (last + a2) - 1)) = true := decide_eq_true g1
            have h_ := h
            clear h
            simp only [Option.some.injEq, Prod.mk.injEq] at h_
            obtain ⟨rfl, rfl⟩ := h_
            try clear hr0 hc0
            go_enter Tryz.func10, Tryz.ntmps10
            go_wp2_with (first | (go_at_call 42; refine (E1.out _ HB.out).mono ?_; rintro e w_1 ⟨rfl, hb⟩; have n_ := Aa.mk (Ab HB.out hb); clear HB; have HB := n_; clear n_; clear hb) | (go_at_call 43; (with_reducible refine (E2.out _).mono ?_); rintro e w_2 ⟨rfl, hb0⟩; have hb := hb0.below; clear hb0; have n_ := Aa.mk (Ab HB.out hb); clear HB; have HB := n_; clear n_; clear hb) | (go_at_call 43; (with_reducible refine (E3.out _).mono ?_); rintro e w_3 ⟨rfl, hb0⟩; have hb := hb0.below; clear hb0; have n_ := Aa.mk (Ab HB.out hb); clear HB; have HB := n_; clear n_; clear hb) | (go_at_call 44; refine (E4.out _ HB.out).mono ?_; rintro e w_4 ⟨rfl, hb0⟩; have hb := hb0.below; clear hb0; have n_ := Aa.mk (Ab HB.out hb); clear HB; have HB := n_; clear n_; clear hb) | (go_at_call 45; refine (E5.out _ HB.out).mono ?_; rintro e w_5 ⟨rfl, hb⟩; have n_ := Aa.mk (Ab HB.out hb); clear HB; have HB := n_; clear n_; clear hb) | (go_at_call 46; refine (E6.out _).mono ?_; rintro e w_6 ⟨rfl, hb0⟩; have hb := hb0.below; clear hb0; have n_ := Aa.mk (Ab HB.out hb); clear HB; have HB := n_; clear n_; clear hb))
            go_ret2
            exact ⟨_, rfl, Kd.Pa _ _ _ _ _, HB.out⟩
          · rw [if_neg g1] at h
            have g1a : decide (8 ≤ wrap64 (wrap64 (last + a2) - 1)) = false := decide_eq_false g1
            by_cases g2 : 120 < wrap64 (wrap64 (Int.tdiv a2 d) * (l0.length : Int))
            · rw [if_pos g2] at h
              have g2a : decide (120 < wrap64 (wrap64 (Int.tdiv a2 d) * (l0.length : Int))) = true := decide_eq_true g2
              have h_ := h
              clear h
              simp only [Option.some.injEq, Prod.mk.injEq] at h_
              obtain ⟨rfl, rfl⟩ := h_
              try clear hr0 hc0
              go_enter Tryz.func10, Tryz.ntmps10
              go_wp2_with (first | (go_at_call 42; refine (E1.out _ HB.out).mono ?_; rintro e w_1 ⟨rfl, hb⟩; have n_ := Aa.mk (Ab HB.out hb); clear HB; have HB := n_; clear n_; clear hb) | (go_at_call 43; (with_reducible refine (E2.out _).mono ?_); rintro e w_2 ⟨rfl, hb0⟩; have hb := hb0.below; clear hb0; have n_ := Aa.mk (Ab HB.out hb); clear HB; have HB := n_; clear n_; clear hb) | (go_at_call 43; (with_reducible refine (E3.out _).mono ?_); rintro e w_3 ⟨rfl, hb0⟩; have hb := hb0.below; clear hb0; have n_ := Aa.mk (Ab HB.out hb); clear HB; have HB := n_; clear n_; clear hb) | (go_at_call 44; refine (E4.out _ HB.out).mono ?_; rintro e w_4 ⟨rfl, hb0⟩; have hb := hb0.below; clear hb0; have n_ := Aa.mk (Ab HB.out hb); clear HB; have HB := n_; clear n_; clear hb) | (go_at_call 45; refine (E5.out _ HB.out).mono ?_; rintro e w_5 ⟨rfl, hb⟩; have n_ := Aa.mk (Ab HB.out hb); clear HB; have HB := n_; clear n_; clear hb) | (go_at_call 46; refine (E6.out _).mono ?_; rintro e w_6 ⟨rfl, hb0⟩; have hb := hb0.below; clear hb0; have n_ := Aa.mk (Ab HB.out hb); clear HB; have HB := n_; clear n_; clear hb) | (go_at_call 47; refine (E7.out _ HB.out).mono ?_; rintro e w_7 ⟨rfl, hb0⟩; have hb := hb0.below; clear hb0; have n_ := Aa.mk (Ab HB.out hb); clear HB; have HB := n_; clear n_; clear hb))
              go_ret2
              exact ⟨_, rfl, Kd.Pa _ _ _ _ _, HB.out⟩
            · rw [if_neg g2] at h
              have g2a : decide (120 < wrap64 (wrap64 (Int.tdiv a2 d) * (l0.length : Int))) = false := decide_eq_false g2
              obtain ⟨X, e8, h_⟩ := Option.bind_eq_some_iff.mp h
              clear h
              have E8 := Aa.mk (fun W (hb : Below w.heap.size w W) => Dr.calls A0 c0 l0 (wrap64 (Int.tdiv a2 d)) X W (Kd.Bh hr0 hb) hc0 e8)
              clear e8
              by_cases q5 : 0 < X.length ∧ X.length ≤ 1000
              rotate_left
              · rw [if_neg q5] at h_
                cases h_
              rw [if_pos q5] at h_
              simp only [Option.some.injEq, Prod.mk.injEq] at h_
              obtain ⟨hv, rfl⟩ := h_
              have LP := Aa.mk q5.1
              have LM := Aa.mk q5.2
              have HV := Aa.mk (show X.take 0 ++ Ki a1 last a2 (X.drop 0) 0 = r1 from hv)
              have HQ := Aa.mk q2b
              clear hv q5 hr0 hc0 g1 g2 q2a q2b q2 q0
              go_enter Tryz.func10, Tryz.ntmps10
              go_wp2_with (first | (go_at_call 42; refine (E1.out _ HB.out).mono ?_; rintro e w_1 ⟨rfl, hb⟩; have n_ := Aa.mk (Ab HB.out hb); clear HB; have HB := n_; clear n_; clear hb) | (go_at_call 43; (with_reducible refine (E2.out _).mono ?_); rintro e w_2 ⟨rfl, hb0⟩; have hb := hb0.below; clear hb0; have n_ := Aa.mk (Ab HB.out hb); clear HB; have HB := n_; clear n_; clear hb) | (go_at_call 43; (with_reducible refine (E3.out _).mono ?_); rintro e w_3 ⟨rfl, hb0⟩; have hb := hb0.below; clear hb0; have n_ := Aa.mk (Ab HB.out hb); clear HB; have HB := n_; clear n_; clear hb) | (go_at_call 44; refine (E4.out _ HB.out).mono ?_; rintro e w_4 ⟨rfl, hb0⟩; have hb := hb0.below; clear hb0; have n_ := Aa.mk (Ab HB.out hb); clear HB; have HB := n_; clear n_; clear hb) | (go_at_call 45; refine (E5.out _ HB.out).mono ?_; rintro e w_5 ⟨rfl, hb⟩; have n_ := Aa.mk (Ab HB.out hb); clear HB; have HB := n_; clear n_; clear hb) | (go_at_call 46; refine (E6.out _).mono ?_; rintro e w_6 ⟨rfl, hb0⟩; have hb := hb0.below; clear hb0; have n_ := Aa.mk (Ab HB.out hb); clear HB; have HB := n_; clear n_; clear hb) | (go_at_call 47; refine (E7.out _ HB.out).mono ?_; rintro e w_7 ⟨rfl, hb0⟩; have hb := hb0.below; clear hb0; have n_ := Aa.mk (Ab HB.out hb); clear HB; have HB := n_; clear n_; clear hb) | (go_at_call 48; refine (E8.out _ HB.out).mono ?_; rintro e w_8 ⟨v0, rfl, hS, hb⟩; obtain ⟨go, co, eo, gb_, gl_, cl_, HG_⟩ := Kd.Lk hS LP.out; have eo : v0 = .slice (some ⟨go, 0, none⟩) X.length co := eo; subst eo; clear gb_ gl_ HG_ cl_; have n_ := y2 (Kd.Bk hS (An HB.out)) (Ab HB.out hb); clear HB; obtain ⟨HO, HB⟩ := n_; clear hb hS))
              clear E1 E2 E3 E4 E5 E6 E7 E8 q1 q3 g1a g2a
              go_loopg [12, 57] (X.length + 1) (fun kq v12 v57 w' => ∃ (i : Nat) (kk : Int) (Y : List Int), v12 = .int .i64 kk ∧ v57 = .int .i64 (i : Int) ∧ Aa (i + kq = X.length + 1 ∧ i ≤ X.length ∧ Y.length = X.length) ∧ Aa (Y.take i ++ Ki a1 last a2 (Y.drop i) kk = r1) ∧ Aa (Kd.R (Kd.int .i64) 2 w' w.heap.size (fun _ => True) (.slice (some ⟨go, 0, none⟩) Y.length co) Y) ∧ Aa (Below w.heap.size w w'))
              case atStart => exact ⟨0, 0, X, rfl, rfl, ⟨by omega, by omega, rfl⟩, HV, HO, HB⟩
              case round =>
                clear HB HO HV
                obtain ⟨i, kk, Y, rfl, rfl, HI, HV, HO, HB⟩ := hrel
                have hYX : Y.length = X.length := HI.out.2.2
                rw [hYX] at HO
                by_cases hi : (i : Int) < (X.length : Int)
                · have hi1 : decide ((i : Int) < (X.length : Int)) = true := decide_eq_true hi
                  have hlt : i < Y.length := by omega
                  obtain ⟨k1, rfl⟩ : ∃ k1, gk = k1 + 1 := ⟨gk - 1, by have := HI.out.1; omega⟩
                  rw [← hYX] at HO
                  obtain ⟨hx, hf⟩ := Kd.Fx 0 HO.out (i : Int) (by omega) (by omega)
                  rw [hYX] at HO
                  rw [Int.toNat_natCast] at hx hf
                  have ers : q2o 0 Y (i : Int) = rd Y (i : Int) := rfl
                  simp only [ers] at hx
                  clear ers
                  have HW := Aa.mk (show wrap64 ((i : Int) + 1) = ((i + 1 : Nat) : Int) by have := LM.out; unfold wrap64; omega)
                  have HD := Aa.mk (q1G a1 last a2 Y i hlt kk)
                  have c1_ := eq_true hi
                  have c2_ := eq_true (show (0 : Int) ≤ (i : Int) by omega)
                  have HIL := Aa.mk hlt
                  clear hi hlt
                  by_cases ht : rd Y (i : Int) = a1
                  · by_cases hk : 0 < kk
                    · have hk1 : decide (0 < kk) = true := decide_eq_true hk
                      have n1 : (rd Y (i : Int) != a1) = false := by rw [ht]; exact bne_self_eq_false _
                      have n2 : (a1 != a1) = false := bne_self_eq_false _
                      have HT := Aa.mk ht
                      have HK := Aa.mk hk
                      clear ht hk
                      go_wp2
                      go_roundg k1
                      case measure => omega
                      case rel => exact ⟨i + 1, _, Y.set i (wrap64 (last + kk)), rfl, by rw [HW.out], ⟨by have := HI.out; omega, by have := HIL.out; omega, by rw [List.length_set]; exact hYX⟩, ⟨by
                        have h1 := HV.out
                        rw [HD.out, if_pos HT.out, if_pos (by have := HK.out; omega)] at h1
                        rw [← h1, List.take_succ_eq_append_getElem (by rw [List.length_set]; exact HIL.out), List.take_set_of_le (Nat.le_refl _), List.drop_set_of_lt (Nat.lt_succ_self _), List.getElem_set_self, List.append_assoc]
                        rfl⟩, ⟨by rw [List.length_set, hYX]; exact Kd.Pm HO.out (i : Int) (wrap64 (last + kk))⟩, ⟨Gl HB.out (Kd.Bs HO.out go rfl)⟩⟩
                    · have hk1 : decide (0 < kk) = false := decide_eq_false hk
                      have n1 : (rd Y (i : Int) != a1) = false := by rw [ht]; exact bne_self_eq_false _
                      have n2 : (a1 != a1) = false := bne_self_eq_false _
                      have HT := Aa.mk ht
                      have HK := Aa.mk hk
                      clear ht hk
                      go_wp2
                      go_roundg k1
                      case measure => omega
                      case rel => exact ⟨i + 1, _, Y, rfl, by rw [HW.out], ⟨by have := HI.out; omega, by have := HIL.out; omega, hYX⟩, ⟨by
                        have h1 := HV.out
                        rw [HD.out, if_pos HT.out, if_neg (by have := HK.out; omega)] at h1
                        rw [← h1, List.take_succ_eq_append_getElem HIL.out, List.append_assoc]
                        simp [rd, HIL.out]⟩, ⟨by rw [hYX]; exact HO.out⟩, ⟨HB.out⟩⟩
                  · have n1 : (rd Y (i : Int) != a1) = true := bne_iff_ne.mpr ht
                    have HT := Aa.mk ht
                    clear ht
                    go_wp2
                    go_roundg k1
                    case measure => omega
                    case rel => exact ⟨i + 1, kk, Y, rfl, by rw [HW.out], ⟨by have := HI.out; omega, by have := HIL.out; omega, hYX⟩, ⟨by
                        have h1 := HV.out
                        rw [HD.out, if_neg HT.out] at h1
                        rw [← h1, List.take_succ_eq_append_getElem HIL.out, List.append_assoc]
                        simp [rd, HIL.out]⟩, ⟨by rw [hYX]; exact HO.out⟩, ⟨HB.out⟩⟩
                · have hi1 : decide ((i : Int) < (X.length : Int)) = false := decide_eq_false hi
                  have HE := Aa.mk (show Y = r1 by
                    have h1 := HV.out
                    have h2 := HI.out
                    rw [List.take_of_length_le (by omega), List.drop_of_length_le (by omega)] at h1
                    simpa [Ki] using h1)
                  have c1_ := eq_false hi
                  clear hi
                  go_wp2
                  go_ret2
                  exact ⟨_, rfl, by rw [← HE.out]; exact HO.out, HB.out⟩
def Pf.f (l0 : List Int) : Option (Bool) := some (decide ((l0.length : Int) > 4096))
theorem Pf.calls (A0 : Option Addr) (c0 : Nat) (l0 : List Int) (r : Bool) (w : World) (hr0 : Kd.C (Kd.int .u8) w A0 l0.length l0) (hc0 : l0.length ≤ c0) (h : Pf.f l0 = some r) :
    Calls Tryz.prog 4 #[.slice A0 l0.length c0] w fun e w' => e = .returned (.bool r) ∧ Ct w w' := by
 have HR0 := Aa.mk hr0
 have HC0 := Aa.mk hc0
 clear hr0 hc0
 have H := h
 clear h
 unfold Pf.f at H
 obtain rfl := Option.some.inj H
 go_enter Tryz.func4, Tryz.ntmps4
 go_wp2
 go_ret
 exact ⟨by first | rfl | (simp; done) | (simp [*]; done), by repeat (first | exact Ct.refl _ | apply Ct.step)⟩
def Af (w0 W : World) (g : Nat) (f0 : List Int) (f1 : Int) (f2 : Int) : Prop := ∃ A0 c0, W.heap[g]? = some (.cells #[.slice A0 f0.length c0, .int .i64 f1, .int .u64 f2] 86 (0, 0)) ∧ w0.heap.size ≤ g ∧ Kd.C (Kd.int .u8) w0 A0 f0.length f0
theorem Af.grown {w0 W : World} {g : Nat} {f0 : List Int} {f1 : Int} {f2 : Int} {W1 : World} {row : Option Nat} (h : Af w0 W g f0 f1 f2) (hw : W.grownBy W1 row) (hne : some g ≠ row) : Af w0 W1 g f0 f1 f2 := by
 obtain ⟨A0, c0, hb, hg, hr0⟩ := h
 exact ⟨A0, c0, Cm hb hw hne, hg, hr0⟩
theorem Af.kept {w0 W : World} {g : Nat} {f0 : List Int} {f1 : Int} {f2 : Int} {W1 : World} {S : Nat → Prop} (h : Af w0 W g f0 f1 f2) (hk : Dn W W1 S) (hne : ¬ S g) : Af w0 W1 g f0 f1 f2 := by
 obtain ⟨A0, c0, hb, hg, hr0⟩ := h
 exact ⟨A0, c0, Eu hb hk hne, hg, hr0⟩
theorem Af.below {w0 W : World} {g : Nat} {f0 : List Int} {f1 : Int} {f2 : Int} {W1 : World} (h : Af w0 W g f0 f1 f2) (hw : Below W.heap.size W W1) : Af w0 W1 g f0 f1 f2 := h.grown (Qm hw none) (by simp)
theorem Af.alloc {w0 W : World} {g : Nat} {f0 : List Int} {f1 : Int} {f2 : Int} (h : Af w0 W g f0 f1 f2) (o : Obj) : Af w0 (W.alloc o) g f0 f1 f2 := h.below (Dz (Below.refl _ _) o)
theorem Af.drewN {w0 W : World} {g : Nat} {f0 : List Int} {f1 : Int} {f2 : Int} (h : Af w0 W g f0 f1 f2) (m : Nat) : Af w0 (W.drewN m) g f0 f1 f2 := h
theorem Af.drew {w0 W : World} {g : Nat} {f0 : List Int} {f1 : Int} {f2 : Int} (h : Af w0 W g f0 f1 f2) : Af w0 W.drew g f0 f1 f2 := h
theorem Af.apart {w0 W : World} {g : Nat} {f0 : List Int} {f1 : Int} {f2 : Int} {α : Type} {d : Kd α} {e : Nat} {base : Nat} {ok : Nat → Prop} {v : Value} {xs : List α} (h : Af w0 W g f0 f1 f2) (ho : d.R e W base ok v xs) (ht : ∀ q, q ∈ e :: d.E → q ≠ 86) : d.R e W base (fun k => ok k ∧ k ≠ g) v xs := by
 obtain ⟨A0, c0, hb, hg, hr0⟩ := h
 exact Kd.Cj ho hb ht
theorem Af.Gd {w0 W : World} {g : Nat} {f0 : List Int} {f1 : Int} {f2 : Int} {α : Type} {d : Kd α} {e : Nat} {base : Nat} {ok : Nat → Prop} {v : Value} {xs : List α} (h : Af w0 W g f0 f1 f2) (ho : d.R e W base ok v xs) (ht : e ≠ 86) : some g ≠ v.ownBlock := by
 obtain ⟨A0, c0, hb, hg, hr0⟩ := h
 exact Kd.Em ho hb ht
theorem Af.lt {w0 W : World} {g : Nat} {f0 : List Int} {f1 : Int} {f2 : Int} (h : Af w0 W g f0 f1 f2) : g < W.heap.size := by
 obtain ⟨A0, c0, hb, hg, hr0⟩ := h
 exact My hb
theorem Af.ge {w0 W : World} {g : Nat} {f0 : List Int} {f1 : Int} {f2 : Int} (h : Af w0 W g f0 f1 f2) : w0.heap.size ≤ g := by
 obtain ⟨A0, c0, hb, hg, hr0⟩ := h
 exact hg
theorem Af.ne_blk {w0 W : World} {g : Nat} {f0 : List Int} {f1 : Int} {f2 : Int} {a : Nat} {cs : Array Value} {t : TypeId} {fr : Nat × Nat} (h : Af w0 W g f0 f1 f2) (hb2 : W.heap[a]? = some (.cells cs t fr)) (ht : t ≠ 86) : g ≠ a := by
 obtain ⟨A0, c0, hb, hg, hr0⟩ := h
 rintro rfl
 rw [hb] at hb2
 injection hb2 with hb2
 injection hb2 with _ ht2
 exact ht ht2.symm
theorem Af.far {w0 W : World} {g : Nat} {f0 : List Int} {f1 : Int} {f2 : Int} {p : Addr} (h : Af w0 W g f0 f1 f2) (hne : g ≠ p.block) (u : Value) : Af w0 (W.setCell p u) g f0 f1 f2 := by
 obtain ⟨A0, c0, hb, hg, hr0⟩ := h
 exact ⟨A0, c0, Ce hb hne u, hg, hr0⟩
theorem Wn {W : World} {g : Nat} {A0 : Option Addr} {c0 : Nat} {f0 : List Int} {f1 : Int} {f2 : Int} (h : W.heap[g]? = some (.cells #[.slice A0 f0.length c0, .int .i64 f1, .int .u64 f2] 86 (0, 0))) : W.cell? ⟨g, 0, none⟩ = some (.slice A0 f0.length c0) := (Au h 0).trans rfl
theorem Wu {W : World} {g : Nat} {A0 : Option Addr} {c0 : Nat} {f0 : List Int} {f1 : Int} {f2 : Int} (h : W.heap[g]? = some (.cells #[.slice A0 f0.length c0, .int .i64 f1, .int .u64 f2] 86 (0, 0))) : W.cell? ⟨g, 1, none⟩ = some (.int .i64 f1) := (Au h 1).trans rfl
theorem Af.set_1 {w0 W : World} {g : Nat} {f0 : List Int} {f1 : Int} {f2 : Int} (h : Af w0 W g f0 f1 f2) (x : Int) : Af w0 (W.setCell ⟨g, 1, none⟩ (.int .i64 x)) g f0 x f2 := by
 obtain ⟨A0, c0, hb, hg, hr0⟩ := h
 exact ⟨A0, c0, by simpa using Xg hb 1 (.int .i64 x), hg, hr0⟩
theorem Wj {W : World} {g : Nat} {A0 : Option Addr} {c0 : Nat} {f0 : List Int} {f1 : Int} {f2 : Int} (h : W.heap[g]? = some (.cells #[.slice A0 f0.length c0, .int .i64 f1, .int .u64 f2] 86 (0, 0))) : W.cell? ⟨g, 2, none⟩ = some (.int .u64 f2) := (Au h 2).trans rfl
theorem Af.set_2 {w0 W : World} {g : Nat} {f0 : List Int} {f1 : Int} {f2 : Int} (h : Af w0 W g f0 f1 f2) (x : Int) : Af w0 (W.setCell ⟨g, 2, none⟩ (.int .u64 x)) g f0 f1 x := by
 obtain ⟨A0, c0, hb, hg, hr0⟩ := h
 exact ⟨A0, c0, by simpa using Xg hb 2 (.int .u64 x), hg, hr0⟩
theorem Af.new (w0 W : World) (A0 : Option Addr) (c0 : Nat) (f0 : List Int) (f1 : Int) (f2 : Int) (hB : Below w0.heap.size w0 W) (hr0 : Kd.C (Kd.int .u8) w0 A0 f0.length f0) : Af w0 (W.alloc (.cells #[.slice A0 f0.length c0, .int .i64 f1, .int .u64 f2] 86)) W.heap.size f0 f1 f2 := ⟨A0, c0, by simpa using heap_alloc_new W _, hB.size, hr0⟩
def Bj.l0 : Nat → List Int → Int → List Int → Int → Int → Option (List Int × Int × Int)
 | 0, _, _, _, _, _ => none
 | k + 1, x0, x4, x102000, x102001, x102002 => if x4 < (x0.length : Int) then (if x4 < 4096 then (if 0 ≤ x4 then (Bj.l0 k x0 (wrap64 (x4 + 1)) x102000 x102001 (IntKind.u64.wrap ((IntKind.u64.wrap ((IntKind.u64.wrap (x102002 * 1099511628211)) + (IntKind.u64.wrap (rd x0 x4)))) + 241))) else (none)) else (some (x102000, x102001, x102002))) else (some (x102000, x102001, x102002))
def Bj.f (k : Nat) (l0 : List Int) : Option (List Int × Int × Int) := Bj.l0 k l0 0 l0 0 (IntKind.u64.wrap (14041 + (IntKind.u64.wrap ((l0.length : Int)))))
theorem Bj.mono_l : ∀ k, (∀ y0 y1 y2 y3 y4, LeO (Bj.l0 k y0 y1 y2 y3 y4) (Bj.l0 (k + 1) y0 y1 y2 y3 y4))
 | 0 => fun _ _ _ _ _ r h => by simp [Bj.l0] at h
 | k + 1 => by
  have ih0 := Bj.mono_l k
  ·
   intro y0 y1 y2 y3 y4
   unfold Bj.l0
   repeat' first | (with_reducible first | exact ih0 _ _ _ _ _ | exact LeO.refl _ | exact LeO.none _ | refine LeO.ite ?_ ?_ | refine LeO.bind ?_ (fun _ => ?_)) | exact ih0 _ _ _ _ _ | exact LeO.none _ | refine LeO.ite ?_ ?_ | refine LeO.bind ?_ (fun _ => ?_)
theorem Bj.mono : ∀ a0 k, LeO (Bj.f k a0) (Bj.f (k + 1) a0) := by
 intro a0 k
 have ih0 := Bj.mono_l k
 unfold Bj.f
 repeat' first | (with_reducible first | exact ih0 _ _ _ _ _ | exact LeO.refl _ | exact LeO.none _ | refine LeO.ite ?_ ?_ | refine LeO.bind ?_ (fun _ => ?_)) | exact ih0 _ _ _ _ _ | exact LeO.none _ | refine LeO.ite ?_ ?_ | refine LeO.bind ?_ (fun _ => ?_)
def Bj.T5 : Bool × List (List Nat × List Nat) := (true, [([], []), ([], []), ([1], [1]), ([2], [2]), ([3], [3]), ([4], [4]), ([], []), ([], []), ([6, 7], [6, 7]), ([8], [8]), ([9], [9]), ([5, 10], [5, 10]), ([11], [11]), ([0, 0, 1, 2, 3, 4, 5, 6, 7, 8, 9, 10, 11, 12], [0]), ([13, 0, 1, 2, 3, 4, 5, 6, 7, 8, 9, 10, 11, 12], [13]), ([14, 12, 0, 1, 2, 3, 4, 5, 6, 7, 8, 9, 10, 11, 12], [12, 14])])
def Bj.B5 : List Nat := [0, 0, 2, 6, 14, 30, 0, 0, 192, 448, 960, 2046, 4094, 8191, 16383, 32767]
theorem Bj.tab5 : rtab .any (Lz Tryz.f25 5) = Bj.T5 := by kernel_rfl
theorem Bj.bits5 : Gh Bj.T5.2 Bj.B5 = true := by kernel_rfl
theorem Bj.calls1 (k : Nat) (A0 : Option Addr) (c0 : Nat) (l0 : List Int) (r1 : List Int) (r2 : Int) (r3 : Int) (w0 w : World) (hB : Below w0.heap.size w0 w) (hr0 : Kd.C (Kd.int .u8) w0 A0 l0.length l0) (hc0 : l0.length ≤ c0) (h : Bj.f k l0 = some (r1, r2, r3)) :
    Calls Tryz.prog 25 #[.slice A0 l0.length c0] w fun e w' => ∃ g_ : Nat, e = .returned (.pointer (some ⟨g_, 0, none⟩)) ∧ Af w0 w' g_ r1 r2 r3 ∧ Below w.heap.size w w' ∧ Below w.heap.size w w' := by
 have hu86 := Tryz.underlying86
 have HR0 := Aa.mk hr0
 have HRw0 := Aa.mk (Kd.Bh hr0 hB)
 have HC0 := Aa.mk hc0
 clear hr0 hc0
 have HBW := Aa.mk (Below.refl w.heap.size w)
 have HW0 := Aa.mk hB.size
 have HB := Aa.mk (Below.refl w.heap.size w)
 clear hB
 have H := h
 clear h
 unfold Bj.f at H
 have H' := Aa.mk H
 clear H
 go_enter Tryz.func25, Tryz.ntmps25
 go_wp2_with (first | ((with_reducible refine Ay (N := 11) rfl ?_); refine Be zr (N := 11) zr (cs := #[.slice A0 l0.length c0, .int .i64 0, .int .u64 (IntKind.u64.wrap (14041 + (IntKind.u64.wrap ((l0.length : Int)))))]) (t := 86) zg ?_; intro gb101 hg w2 hbox hb; have n_ := y5 (Ab HBW.out hb) (Ab (zB) hb) (hbox) ((by rw [hg]; exact (An (by repeat (first | (with_reducible first | exact HBW.out | apply Dz | apply Ef | apply Bz) | exact HBW.out))) : w.heap.size ≤ gb101)) ((Nat.le_trans HW0.out (by rw [hg]; exact (An (by repeat (first | (with_reducible first | exact HBW.out | apply Dz | apply Ef | apply Bz) | exact HBW.out))) : w.heap.size ≤ gb101) : w0.heap.size ≤ gb101)); clear HBW HB; obtain ⟨HBW, HB, BK101, GW101, GE101⟩ := n_; clear hb hbox hg))
 go_loopg [4] k (fun kq v4 w' => ∃ (x4_1 : Int) (x102002_1 : Int), v4 = .int .i64 x4_1 ∧ Aa (Bj.l0 kq l0 x4_1 l0 0 x102002_1 = some (r1, r2, r3)) ∧ Aa (kq ≤ k) ∧ Aa (w'.heap[gb101]? = some (.cells #[(.slice A0 l0.length c0), .int .i64 0, .int .u64 x102002_1] 86 (0, 0))) ∧ Aa (Below w.heap.size w w'))
 case atStart => exact ⟨(0), (IntKind.u64.wrap (14041 + (IntKind.u64.wrap ((l0.length : Int))))), zF, H', ⟨Nat.le_refl _⟩, ⟨zG BK101.out⟩, ⟨zB⟩⟩
 clear H'
 obtain ⟨x4_1, x102002_1, rfl, HA, HK1, BK101, HB⟩ := hrel
 cases gk with
 | zero => exact absurd HA.out (by simp [Bj.l0])
 | succ k1 =>
  have H := HA.out
  clear HA
  simp only [Bj.l0] at H
  by_cases c3 : x4_1 < (l0.length : Int)
  case neg =>
   rw [if_neg c3] at H
   have c3b0 := decide_eq_false c3
   clear c3
   simp only [Option.some.injEq, Prod.mk.injEq] at H
   obtain ⟨rfl, rfl, rfl⟩ := H
   go_wp2
   go_ret
   exact ⟨_, rfl, (show Af w0 _ gb101 l0 0 x102002_1 from ⟨_, _, zG BK101.out, GE101.out, HR0.out⟩), zB, zB⟩
  rw [if_pos c3] at H
  have c3b0 := decide_eq_true c3
  clear c3
  by_cases c4 : x4_1 < 4096
  case neg =>
   rw [if_neg c4] at H
   have c4b0 := decide_eq_false c4
   clear c4
   simp only [Option.some.injEq, Prod.mk.injEq] at H
   obtain ⟨rfl, rfl, rfl⟩ := H
   go_wp2
   go_ret
   exact ⟨_, rfl, (show Af w0 _ gb101 l0 0 x102002_1 from ⟨_, _, zG BK101.out, GE101.out, HR0.out⟩), zB, zB⟩
  rw [if_pos c4] at H
  have c4b0 := decide_eq_true c4
  clear c4
  by_cases c5 : 0 ≤ x4_1
  case neg => rw [if_neg c5] at H; exact absurd H (by simp)
  rw [if_pos c5] at H
  have c5b0 := decide_eq_true c5
  clear c5
  have H' := Aa.mk H
  clear H
  try go_wp2
  have n_ := y2 (Ag BK101.out) (Bz HB.out)
  clear BK101 HB
  obtain ⟨BK101, HB⟩ := n_
  have p102 : 0 ≤ (x4_1 : Int) := zD
  have q102 : x4_1 < (l0.length : Int) := zD
  obtain ⟨ad102, e102, hx102_0⟩ := Kd.Cv HRw0.out x4_1 p102 q102
  have hw102_0 := hx102_0
  cases e102
  replace hx102_0 := Gu HB.out hx102_0
  replace p102 := eq_true p102
  replace q102 := eq_true q102
  refine Fg (n := 16) (S := fun w' => w'.cell? ⟨gb101, 0, none⟩ = some (.slice (some ad102) l0.length c0) ∧ w'.cell? ⟨gb101, 1, none⟩ = some (.int .i64 0) ∧ w'.cell? ⟨gb101, 2, none⟩ = some (.int .u64 x102002_1) ∧ w'.cell? (ad102.add (x4_1).toNat) = some (.int .u8 (rd l0 x4_1))) (ds := [15]) #[false,false,false,false,false,false,false,false,false,false,false,false,false,false,false,false] zk rfl rfl ⟨(Au BK101.out 0).trans rfl, (Au BK101.out 1).trans rfl, (Au BK101.out 2).trans rfl, ((HB.out.cell (World.block_lt_of_cell? w _ hw102_0)).trans hw102_0)⟩ (fun hHeld => ?_); refine Eh Bj.tab5 Bj.bits5 (fun HT_ HW_ => ?_)
  generalize wr.drew = w6 at BK101 HB hx102_0 hHeld ⊢
  refine pT 0 22 HT_ ?_
  refine pT 1 23 HT_ ?_
  refine pT 2 24 HT_ ?_
  refine pT 3 25 HT_ ?_
  refine pT 6 28 HT_ ?_
  refine pT 7 29 HT_ ?_
  refine pT 8 30 HT_ ?_
  refine tT 4 26 HT_ HW_ hHeld ?_
  refine pT 5 27 HT_ ?_
  refine tT 9 31 HT_ HW_ hHeld ?_
  refine pT 10 32 HT_ ?_
  refine pT 11 33 HT_ ?_
  refine pT 12 34 HT_ ?_
  refine pT 13 35 HT_ ?_
  refine pT 14 36 HT_ ?_
  refine Ms (i := 15) (N := none) #[true,true,true,true,true,true,true,true,true,true,true,true,true,true,true,true] rfl rfl (Db HT_.out zk) (by decide) (fun K hK => ?_)
  have hs7 : w6.cell? ⟨gb101, 2, none⟩ = some (.int .u64 x102002_1) := (Au BK101.out 2).trans rfl
  have hfs7 := Fl BK101.out 2
  refine Lo (w1 := ?_) (by rfl) rfl ?_ ?_
  rotate_left
  ·
   go_simp
   rfl
  refine hK.out _ _ ?_
  clear hK K
  refine Gf (Fo HT_.out zk) ?_
  try go_wp2
  go_roundg k1
  case measure => have := HK1.out; omega
  case rel => exact ⟨(wrap64 (x4_1 + 1)), (IntKind.u64.wrap ((IntKind.u64.wrap ((IntKind.u64.wrap (x102002_1 * 1099511628211)) + (IntKind.u64.wrap (rd l0 x4_1)))) + 241)), zF, H', ⟨by have := HK1.out; omega⟩, ⟨by (with_reducible repeat (first | refine Am ?_ _ | refine Ag ?_ | refine Ak ?_ _)); refine Cl (cs := #[.slice (some ad102) l0.length c0, .int .i64 0, .int .u64 x102002_1]) ?_ 2 _ rfl; (with_reducible repeat (first | refine Am ?_ _ | refine Ag ?_ | refine Ak ?_ _)); exact BK101.out⟩, ⟨zB⟩⟩
theorem Bj.calls (k : Nat) (A0 : Option Addr) (c0 : Nat) (l0 : List Int) (r1 : List Int) (r2 : Int) (r3 : Int) (w0 w : World) (hB : Below w0.heap.size w0 w) (hr0 : Kd.C (Kd.int .u8) w0 A0 l0.length l0) (hc0 : l0.length ≤ c0) (h : Bj.f k l0 = some (r1, r2, r3)) :
    Calls Tryz.prog 25 #[.slice A0 l0.length c0] w fun e w' => ∃ g_ : Nat, e = .returned (.pointer (some ⟨g_, 0, none⟩)) ∧ Af w0 w' g_ r1 r2 r3 ∧ Below w0.heap.size w0 w' ∧ Below w.heap.size w w' := by
 refine (Bj.calls1 k A0 c0 l0 r1 r2 r3 w0 w hB hr0 hc0 h).mono ?_
 rintro e w' ⟨g, he, hi, hb1, hb2⟩
 exact ⟨g, he, hi, Ab hB hb1, hb2⟩
def Bf.f (s0_0 : List Int) (s0_1 : Int) (s0_2 : Int) (a1 : Int) : Option (Int × Int × Int) := if a1 < 1 then (some (0, s0_1, s0_2)) else (if s0_1 < (s0_0.length : Int) then (if 0 ≤ s0_1 then (if a1 = 0 then (none) else (some (Int.tmod (wrap64 ((wrap64 (Go.bits .and .u64 ((IntKind.u64.wrap ((IntKind.u64.wrap (s0_2 * 6364136223846793005)) + 1442695040888963407)) / 8589934592) 16777215)) + (wrap64 (rd s0_0 s0_1)))) a1, wrap64 (s0_1 + 1), IntKind.u64.wrap ((IntKind.u64.wrap (s0_2 * 6364136223846793005)) + 1442695040888963407)))) else (none)) else (if a1 = 0 then (none) else (some (Int.tmod (wrap64 (Go.bits .and .u64 ((IntKind.u64.wrap ((IntKind.u64.wrap (s0_2 * 6364136223846793005)) + 1442695040888963407)) / 8589934592) 16777215)) a1, s0_1, IntKind.u64.wrap ((IntKind.u64.wrap (s0_2 * 6364136223846793005)) + 1442695040888963407)))))
theorem Bf.calls (g : Nat) (s0_0 : List Int) (s0_1 : Int) (s0_2 : Int) (a1 : Int) (r1 : Int) (r2 : Int) (r3 : Int) (w0 w : World) (hI : Af w0 w g s0_0 s0_1 s0_2) (hB : Below w0.heap.size w0 w) (h : Bf.f s0_0 s0_1 s0_2 a1 = some (r1, r2, r3)) :
    Calls Tryz.prog 29 #[.pointer (some ⟨g, 0, none⟩), .int .i64 a1] w fun e w' => e = .returned (.int .i64 r1) ∧ Af w0 w' g s0_0 r2 r3 ∧ Below w0.heap.size w0 w' ∧ Av w w' g none := by
 have HI0 := Aa.mk hI
 have HK := Aa.mk (Av.refl w g none)
 have HL := Aa.mk hB.size
 clear hI
 have HW0 := Aa.mk hB.size
 have HB := Aa.mk hB
 clear hB
 have H := h
 clear h
 unfold Bf.f at H
 by_cases c3 : a1 < 1
 ·
  rw [if_pos c3] at H
  have c3b0 := decide_eq_true c3
  clear c3
  simp only [Option.some.injEq, Prod.mk.injEq] at H
  obtain ⟨rfl, rfl, rfl⟩ := H
  go_enter Tryz.func29, Tryz.ntmps29
  go_wp2
  repeat (go_quiet (fail); try go_wp2)
  go_ret
  exact ⟨zE, zI, zB, zK⟩
 rw [if_neg c3] at H
 have c3b0 := decide_eq_false c3
 clear c3
 by_cases c4 : s0_1 < (s0_0.length : Int)
 case neg =>
  rw [if_neg c4] at H
  have c4b0 := decide_eq_false c4
  clear c4
  by_cases c8 : a1 = 0
  ·
   rw [if_pos c8] at H
   exact absurd H (by simp)
  rw [if_neg c8] at H
  have c8b0 : (a1 == 0) = false := beq_eq_false_iff_ne.mpr c8
  have c8b1 : (a1 != 0) = true := bne_iff_ne.mpr c8
  simp only [Option.some.injEq, Prod.mk.injEq] at H
  obtain ⟨rfl, rfl, rfl⟩ := H
  obtain ⟨ASz9_0, cSz9_0, HGz9, hgz9, HSz9_0⟩ := HI0.out
  have hcz9_0 := Wn HGz9
  have hcz9_1 := Wu HGz9
  have hcz9_2 := Wj HGz9
  have hfz9_1 := Fl HGz9 1
  have hfz9_2 := Fl HGz9 2
  clear HGz9 hgz9
  go_enter Tryz.func29, Tryz.ntmps29
  go_wp2
  repeat (go_quiet (fail); try go_wp2)
  go_ret
  exact ⟨zE, zI, zB, zK⟩
 rw [if_pos c4] at H
 have c4b0 := decide_eq_true c4
 clear c4
 by_cases c5 : 0 ≤ s0_1
 case neg => rw [if_neg c5] at H; exact absurd H (by simp)
 rw [if_pos c5] at H
 have c5b0 := decide_eq_true c5
 clear c5
 by_cases c6 : a1 = 0
 ·
  rw [if_pos c6] at H
  exact absurd H (by simp)
 rw [if_neg c6] at H
 have c6b0 : (a1 == 0) = false := beq_eq_false_iff_ne.mpr c6
 have c6b1 : (a1 != 0) = true := bne_iff_ne.mpr c6
 simp only [Option.some.injEq, Prod.mk.injEq] at H
 obtain ⟨rfl, rfl, rfl⟩ := H
 obtain ⟨ASz7_0, cSz7_0, HGz7, hgz7, HSz7_0⟩ := HI0.out
 have hcz7_0 := Wn HGz7
 have hcz7_1 := Wu HGz7
 have hcz7_2 := Wj HGz7
 have hfz7_1 := Fl HGz7 1
 have hfz7_2 := Fl HGz7 2
 clear HGz7 hgz7
 have p101 : 0 ≤ (s0_1 : Int) := zD
 have q101 : s0_1 < (s0_0.length : Int) := zD
 obtain ⟨ad101, e101, hx101_0⟩ := Kd.Cv HSz7_0 s0_1 p101 q101
 cases e101
 have hn101_0 : ad101.block ≠ g := Nat.ne_of_lt (Nat.lt_of_lt_of_le (by have := World.block_lt_of_cell? _ _ hx101_0; first | rwa [Lg] at this | exact this) (Af.ge HI0.out))
 replace hx101_0 := Gu HB.out hx101_0
 replace hx101_0 := (Kf (p := ⟨g, 2, none⟩) (by first | (rw [Lg]; exact hn101_0) | (show (Addr.add _ _).block ≠ _; rw [Lg]; exact hn101_0) | exact hn101_0) (.int .u64 (IntKind.u64.wrap ((IntKind.u64.wrap (s0_2 * 6364136223846793005)) + 1442695040888963407)))).trans hx101_0
 (try have hy101_0 := fun (n_ : Nat) => (show (((w.drewN n_).setCell ⟨g, 2, none⟩ (.int .u64 (IntKind.u64.wrap ((IntKind.u64.wrap (s0_2 * 6364136223846793005)) + 1442695040888963407))))).cell? _ = some _ from hx101_0))
 clear hn101_0
 replace p101 := eq_true p101
 replace q101 := eq_true q101
 go_enter Tryz.func29, Tryz.ntmps29
 go_wp2
 repeat (go_quiet (fail); try go_wp2)
 go_ret
 exact ⟨zE, zI, zB, zK⟩
def Co.f (s0_0 : List Int) (s0_1 : Int) (s0_2 : Int) (l1 : List Int) : Option (Int × Int × Int) := (Bf.f s0_0 s0_1 s0_2 (l1.length : Int)).bind fun bt101 => (if 0 ≤ bt101.1 then (if bt101.1 < (l1.length : Int) then (some (rd l1 bt101.1, bt101.2.1, bt101.2.2)) else (none)) else (none))
theorem Co.calls (g : Nat) (s0_0 : List Int) (s0_1 : Int) (s0_2 : Int) (A1 : Option Addr) (c1 : Nat) (l1 : List Int) (r1 : Int) (r2 : Int) (r3 : Int) (w0 w : World) (hI : Af w0 w g s0_0 s0_1 s0_2) (hB : Below w0.heap.size w0 w) (hr1 : Kd.C (Kd.int .i64) w A1 l1.length l1) (hc1 : l1.length ≤ c1) (hf1 : ∀ ad, A1 = some ad → 0 < l1.length → ad.block ≠ g) (h : Co.f s0_0 s0_1 s0_2 l1 = some (r1, r2, r3)) :
    Calls Tryz.prog 52 #[.pointer (some ⟨g, 0, none⟩), .slice A1 l1.length c1] w fun e w' => e = .returned (.int .i64 r1) ∧ Af w0 w' g s0_0 r2 r3 ∧ Below w0.heap.size w0 w' ∧ Av w w' g none := by
 have HR1 := Aa.mk hr1
 have HC1 := Aa.mk hc1
 clear hr1 hc1
 have HI0 := Aa.mk hI
 have HK := Aa.mk (Av.refl w g none)
 have HL := Aa.mk hB.size
 clear hI
 have HW0 := Aa.mk hB.size
 have HB := Aa.mk hB
 clear hB
 have H := h
 clear h
 unfold Co.f at H
 obtain ⟨⟨t101, t102, t103⟩, A3, H⟩ := zO H
 try dsimp only at H
 by_cases c4 : 0 ≤ t101
 case neg => rw [if_neg c4] at H; exact absurd H (by simp)
 rw [if_pos c4] at H
 have c4b0 := decide_eq_true c4
 clear c4
 by_cases c5 : t101 < (l1.length : Int)
 case neg => rw [if_neg c5] at H; exact absurd H (by simp)
 rw [if_pos c5] at H
 have c5b0 := decide_eq_true c5
 clear c5
 simp only [Option.some.injEq, Prod.mk.injEq] at H
 obtain ⟨rfl, rfl, rfl⟩ := H
 go_enter Tryz.func52, Tryz.ntmps52
 go_wp2_with (first | (refine gK 29 ?_; refine gL 9 Tryz.func29 #[.pointer (some ⟨g, 0, none⟩), .int .i64 (l1.length : Int)] ?_; (with_reducible refine (Bf.calls g s0_0 s0_1 s0_2 (l1.length : Int) t101 t102 t103 w0 _ ?side1 ?side2 A3.out).mono ?_); (case side1 => exact zI); (case side2 => exact zB); rintro e w6 ⟨rfl, hi, hb, hk⟩; refine ⟨_, rfl, ?_⟩; have n_ := y3 (Av.trans (zK) hk (.inl rfl)) (hb) (hi); clear HK HB HI0; obtain ⟨HK, HB, HI0⟩ := n_; (try clear hi hb hk); have p104 : 0 ≤ (t101 : Int) := zD; have q104 : t101 < (l1.length : Int) := zD; obtain ⟨ad104, e104, hx104_0⟩ := Kd.Cv HR1.out t101 p104 q104; cases e104; replace hx104_0 := Qv HK.out hx104_0 (by first | (rw [Lg]; exact hf1 _ rfl (by omega)) | exact hf1 _ rfl (by omega) | exact hf1 ad104 rfl (by omega)); replace p104 := eq_true p104; replace q104 := eq_true q104))
 go_ret
 exact ⟨zE, zI, zB, zK⟩
def Cw.l0 : Nat → List Int → Int → List Int → Int → Int → Int → Option (List Int)
 | 0, _, _, _, _, _, _ => none
 | k + 1, x0, x1, x5, x6, x7, x8 => if x8 < (x0.length : Int) then (if 0 ≤ x8 then (if (rd x0 x8) = x1 then (if x6 < 0 then (Cw.l0 k x0 x1 x5 x8 x8 (wrap64 (x8 + 1))) else (if x5.length < 17592186044416 then (Cw.l0 k x0 x1 (x5 ++ [wrap64 (x8 - x7)]) x6 x8 (wrap64 (x8 + 1))) else (none))) else (Cw.l0 k x0 x1 x5 x6 x7 (wrap64 (x8 + 1)))) else (none)) else (if x6 ≥ 0 then (if x5.length < 17592186044416 then (some (x5 ++ [wrap64 ((wrap64 ((x0.length : Int) - x7)) + x6)])) else (none)) else (some x5))
def Cw.f (k : Nat) (l0 : List Int) (a1 : Int) : Option (List Int) := Cw.l0 k l0 a1 (([] : List Int)) (-1) (-1) 0
theorem Cw.mono_l : ∀ k, (∀ y0 y1 y2 y3 y4 y5, LeO (Cw.l0 k y0 y1 y2 y3 y4 y5) (Cw.l0 (k + 1) y0 y1 y2 y3 y4 y5))
 | 0 => fun _ _ _ _ _ _ r h => by simp [Cw.l0] at h
 | k + 1 => by
  have ih0 := Cw.mono_l k
  ·
   intro y0 y1 y2 y3 y4 y5
   unfold Cw.l0
   repeat' first | (with_reducible first | exact ih0 _ _ _ _ _ _ | exact LeO.refl _ | exact LeO.none _ | refine LeO.ite ?_ ?_ | refine LeO.bind ?_ (fun _ => ?_)) | exact ih0 _ _ _ _ _ _ | exact LeO.none _ | refine LeO.ite ?_ ?_ | refine LeO.bind ?_ (fun _ => ?_)
theorem Cw.mono : ∀ a0 a1 k, LeO (Cw.f k a0 a1) (Cw.f (k + 1) a0 a1) := by
 intro a0 a1 k
 have ih0 := Cw.mono_l k
 unfold Cw.f
 repeat' first | (with_reducible first | exact ih0 _ _ _ _ _ _ | exact LeO.refl _ | exact LeO.none _ | refine LeO.ite ?_ ?_ | refine LeO.bind ?_ (fun _ => ?_)) | exact ih0 _ _ _ _ _ _ | exact LeO.none _ | refine LeO.ite ?_ ?_ | refine LeO.bind ?_ (fun _ => ?_)
theorem Cw.calls (k : Nat) (A0 : Option Addr) (c0 : Nat) (l0 : List Int) (a1 : Int) (r : List Int) (w : World) (hr0 : Kd.C (Kd.int .i64) w A0 l0.length l0) (hc0 : l0.length ≤ c0) (h : Cw.f k l0 a1 = some r) :
    Calls Tryz.prog 77 #[.slice A0 l0.length c0, .int .i64 a1] w fun e w' => ∃ v0_ : Value, e = .returned (v0_) ∧ Kd.R (Kd.int .i64) 2 w' w.heap.size (fun _ => True) v0_ r ∧ Below w.heap.size w w' := by
 have HR0 := Aa.mk hr0
 have HC0 := Aa.mk hc0
 clear hr0 hc0
 have HB := Aa.mk (Below.refl w.heap.size w)
 have H := h
 clear h
 unfold Cw.f at H
 obtain ⟨y101, hy101⟩ : ∃ y_ : List Int, y_ = (([] : List Int)) := ⟨_, rfl⟩
 replace H : (Cw.l0 k l0 a1 y101 (-1) (-1) 0) = some r := zH hy101
 have Ny101 := Aa.mk hy101
 clear hy101
 have H' := Aa.mk H
 clear H
 go_enter Tryz.func77, Tryz.ntmps77
 go_wp2_with (first | ((with_reducible refine Ay (N := 9) rfl ?_); refine Kd.Kv (Kd.int .i64) _ 2 ?hg (N := 9) ?hd (xs := ([] : List Int)) (inner := []) (ok := fun _ => True) (okp := fun _ => True) ?hr ?hp (fun _ hk => hk) trivial (Below.refl _ _) (Nat.le_refl _) (by simp) ?_; (case hd => rfl); (case hg => rfl); (case hr => first | (go_simp; done) | (go_simp; rfl)); (case hp => exact (Dk.none _ _)); intro v102 w3 ho4 hb hg_ hnew_; clear hg_ hnew_; (first | rw [← Ny101.out] at ho4 | (simp only [Int.reduceToNat] at ho4; rw [← Ny101.out] at ho4)); have n_ := y2 (Kd.Bk ho4 (An (zB))) (Ab (zB) hb); clear HB; obtain ⟨HO103, HB⟩ := n_; clear hb ho4))
 go_loopg [5, 6, 7, 8] k (fun kq v5 v6 v7 v8 w' => ∃ (x5_1 : List Int) (x6_1 : Int) (x7_1 : Int) (x8_1 : Int), v6 = .int .i64 x6_1 ∧ v7 = .int .i64 x7_1 ∧ v8 = .int .i64 x8_1 ∧ Aa (Cw.l0 kq l0 a1 x5_1 x6_1 x7_1 x8_1 = some r) ∧ Aa (kq ≤ k) ∧ Aa (Kd.R (Kd.int .i64) 2 w' w.heap.size (fun _ => True) v5 x5_1) ∧ Aa (Below w.heap.size w w'))
 case atStart => exact ⟨(y101), ((-1)), ((-1)), (0), zF, zF, zF, H', ⟨Nat.le_refl _⟩, ⟨zR HO103.out⟩, ⟨zB⟩⟩
 clear H'
 obtain ⟨x5_1, x6_1, x7_1, x8_1, rfl, rfl, rfl, HA, HK1, HO_5, HB⟩ := hrel
 cases gk with
 | zero => exact absurd HA.out (by simp [Cw.l0])
 | succ k1 =>
  have H := HA.out
  clear HA
  simp only [Cw.l0] at H
  by_cases c5 : x8_1 < (l0.length : Int)
  case neg =>
   rw [if_neg c5] at H
   have c5b0 := decide_eq_false c5
   clear c5
   by_cases c11 : x6_1 ≥ 0
   case neg =>
    rw [if_neg c11] at H
    have c11b0 := decide_eq_false c11
    clear c11
    obtain rfl := Option.some.inj H
    go_wp2
    go_ret
    exact ⟨_, zE, zR HO_5.out, zB⟩
   rw [if_pos c11] at H
   have c11b0 := decide_eq_true c11
   clear c11
   by_cases c12 : x5_1.length < 17592186044416
   case neg => rw [if_neg c12] at H; exact absurd H (by simp)
   rw [if_pos c12] at H
   have LMc12 := Aa.mk c12
   clear c12
   obtain ⟨y104, hy104⟩ : ∃ y_ : List Int, y_ = (x5_1 ++ [wrap64 ((wrap64 ((l0.length : Int) - x7_1)) + x6_1)]) := ⟨_, rfl⟩
   replace H : (some y104) = some r := zH hy104
   have Ny104 := Aa.mk hy104
   clear hy104
   obtain rfl := Option.some.inj H
   go_wp2_with (first | ((with_reducible refine Dp (b := .append) (xs := #[.tmp 34, .tmp 41]) rfl ?_); at_builtin; refine Kd.Gk (Kd.int .i64) (w0 := w) w.heap.size rfl (.tmp 34) (.tmp 41) 24 2 (.int .i64 0) 8 rfl Tryz.underlying24 Gb rfl (by decide) (by omega) u5 x5_1 (wrap64 ((wrap64 ((l0.length : Int) - x7_1)) + x6_1)) [.int .i64 (wrap64 ((wrap64 ((l0.length : Int) - x7_1)) + x6_1))] (fun _ => True) (fun _ => False) rfl rfl ?aP (fun _ hk => hk.elim) ?aF ?aO ?aB ?aS ?aL ?_; (case aP => exact rfl); (case aB => exact (zB)); (case aF => exact (fun _ _ => trivial)); (case aO => exact (zR HO_5.out)); (case aS => exact (An (zB))); (case aL => have := LMc12.out; omega); intro v105 w13 ho hb hg hat; rw [← Ny104.out] at ho; have n_ := y2 (hb) (ho); clear HB HO_5; obtain ⟨HB, HO106⟩ := n_; clear ho hb hg hat))
   go_ret
   exact ⟨_, zE, zR HO106.out, zB⟩
  rw [if_pos c5] at H
  have c5b0 := decide_eq_true c5
  clear c5
  by_cases c6 : 0 ≤ x8_1
  case neg => rw [if_neg c6] at H; exact absurd H (by simp)
  rw [if_pos c6] at H
  have c6b0 := decide_eq_true c6
  clear c6
  by_cases c7 : (rd l0 x8_1) = a1
  case neg =>
   rw [if_neg c7] at H
   have c7b0 : ((rd l0 x8_1) == a1) = false := beq_eq_false_iff_ne.mpr c7
   have c7b1 : ((rd l0 x8_1) != a1) = true := bne_iff_ne.mpr c7
   have H' := Aa.mk H
   clear H
   have p107 : 0 ≤ (x8_1 : Int) := zD
   have q107 : x8_1 < (l0.length : Int) := zD
   obtain ⟨ad107, e107, hx107_0⟩ := Kd.Cv HR0.out x8_1 p107 q107
   cases e107
   replace hx107_0 := (HB.out.cell (World.block_lt_of_cell? w _ hx107_0)).trans hx107_0
   replace p107 := eq_true p107
   replace q107 := eq_true q107
   go_wp2
   go_roundg k1
   case measure => have := HK1.out; omega
   case rel => exact ⟨(x5_1), (x6_1), (x7_1), (wrap64 (x8_1 + 1)), zF, zF, zF, H', ⟨by have := HK1.out; omega⟩, ⟨zR HO_5.out⟩, ⟨zB⟩⟩
  rw [if_pos c7] at H
  have c7b0 : ((rd l0 x8_1) == a1) = true := beq_iff_eq.mpr c7
  have c7b1 : ((rd l0 x8_1) != a1) = false := bne_eq_false_iff_eq.mpr c7
  clear c7
  by_cases c8 : x6_1 < 0
  ·
   rw [if_pos c8] at H
   have c8b0 := decide_eq_true c8
   clear c8
   have H' := Aa.mk H
   clear H
   have p107 : 0 ≤ (x8_1 : Int) := zD
   have q107 : x8_1 < (l0.length : Int) := zD
   obtain ⟨ad107, e107, hx107_0⟩ := Kd.Cv HR0.out x8_1 p107 q107
   cases e107
   replace hx107_0 := (HB.out.cell (World.block_lt_of_cell? w _ hx107_0)).trans hx107_0
   replace p107 := eq_true p107
   replace q107 := eq_true q107
   go_wp2
   go_roundg k1
   case measure => have := HK1.out; omega
   case rel => exact ⟨(x5_1), (x8_1), (x8_1), (wrap64 (x8_1 + 1)), zF, zF, zF, H', ⟨by have := HK1.out; omega⟩, ⟨zR HO_5.out⟩, ⟨zB⟩⟩
  rw [if_neg c8] at H
  have c8b0 := decide_eq_false c8
  clear c8
  by_cases c9 : x5_1.length < 17592186044416
  case neg => rw [if_neg c9] at H; exact absurd H (by simp)
  rw [if_pos c9] at H
  have LMc9 := Aa.mk c9
  clear c9
  obtain ⟨y108, hy108⟩ : ∃ y_ : List Int, y_ = (x5_1 ++ [wrap64 (x8_1 - x7_1)]) := ⟨_, rfl⟩
  replace H : (Cw.l0 k1 l0 a1 y108 x6_1 x8_1 (wrap64 (x8_1 + 1))) = some r := zH hy108
  have Ny108 := Aa.mk hy108
  clear hy108
  have H' := Aa.mk H
  clear H
  have p107 : 0 ≤ (x8_1 : Int) := zD
  have q107 : x8_1 < (l0.length : Int) := zD
  obtain ⟨ad107, e107, hx107_0⟩ := Kd.Cv HR0.out x8_1 p107 q107
  cases e107
  replace hx107_0 := (HB.out.cell (World.block_lt_of_cell? w _ hx107_0)).trans hx107_0
  replace p107 := eq_true p107
  replace q107 := eq_true q107
  go_wp2_with (first | ((with_reducible refine Dp (b := .append) (xs := #[.tmp 25, .tmp 29]) rfl ?_); at_builtin; refine Kd.Gk (Kd.int .i64) (w0 := w) w.heap.size rfl (.tmp 25) (.tmp 29) 24 2 (.int .i64 0) 8 rfl Tryz.underlying24 Gb rfl (by decide) (by omega) u5 x5_1 (wrap64 (x8_1 - x7_1)) [.int .i64 (wrap64 (x8_1 - x7_1))] (fun _ => True) (fun _ => False) rfl rfl ?aP (fun _ hk => hk.elim) ?aF ?aO ?aB ?aS ?aL ?_; (case aP => exact rfl); (case aB => exact (zB)); (case aF => exact (fun _ _ => trivial)); (case aO => exact (zR HO_5.out)); (case aS => exact (An (zB))); (case aL => have := LMc9.out; omega); intro v109 w10 ho hb hg hat; rw [← Ny108.out] at ho; have n_ := y2 (hb) (ho); clear HB HO_5; obtain ⟨HB, HO110⟩ := n_; clear ho hb hg hat))
  go_roundg k1
  case measure => have := HK1.out; omega
  case rel => exact ⟨(y108), (x6_1), (x8_1), (wrap64 (x8_1 + 1)), zF, zF, zF, H', ⟨by have := HK1.out; omega⟩, ⟨zR HO110.out⟩, ⟨zB⟩⟩
def Bn.l0 : Nat → List Int → Int → Int → Option (Int)
 | 0, _, _, _ => none
 | k + 1, x5, x6, x7 => if x7 < (x5.length : Int) then (if 0 ≤ x7 then (Bn.l0 k x5 (mx x6 (rd x5 x7)) (wrap64 (x7 + 1))) else (none)) else (some x6)
def Bn.f (k : Nat) (l0 : List Int) (a1 : Int) : Option (Int) := (Cw.f k l0 a1).bind fun t101 => (Bn.l0 k t101 0 0)
theorem Bn.mono_l : ∀ k, (∀ y0 y1 y2, LeO (Bn.l0 k y0 y1 y2) (Bn.l0 (k + 1) y0 y1 y2))
 | 0 => fun _ _ _ r h => by simp [Bn.l0] at h
 | k + 1 => by
  have ih0 := Bn.mono_l k
  ·
   intro y0 y1 y2
   unfold Bn.l0
   repeat' first | (with_reducible first | exact ih0 _ _ _ | exact Cw.mono _ _ _ | exact LeO.refl _ | exact LeO.none _ | refine LeO.ite ?_ ?_ | refine LeO.bind ?_ (fun _ => ?_)) | exact ih0 _ _ _ | exact Cw.mono _ _ _ | exact LeO.none _ | refine LeO.ite ?_ ?_ | refine LeO.bind ?_ (fun _ => ?_)
theorem Bn.mono : ∀ a0 a1 k, LeO (Bn.f k a0 a1) (Bn.f (k + 1) a0 a1) := by
 intro a0 a1 k
 have ih0 := Bn.mono_l k
 unfold Bn.f
 repeat' first | (with_reducible first | exact ih0 _ _ _ | exact Cw.mono _ _ _ | exact LeO.refl _ | exact LeO.none _ | refine LeO.ite ?_ ?_ | refine LeO.bind ?_ (fun _ => ?_)) | exact ih0 _ _ _ | exact Cw.mono _ _ _ | exact LeO.none _ | refine LeO.ite ?_ ?_ | refine LeO.bind ?_ (fun _ => ?_)
theorem Bn.calls (k : Nat) (A0 : Option Addr) (c0 : Nat) (l0 : List Int) (a1 : Int) (r : Int) (w : World) (hr0 : Kd.C (Kd.int .i64) w A0 l0.length l0) (hc0 : l0.length ≤ c0) (h : Bn.f k l0 a1 = some r) :
    Calls Tryz.prog 59 #[.slice A0 l0.length c0, .int .i64 a1] w fun e w' => e = .returned (.int .i64 r) ∧ Below w.heap.size w w' := by
 have HR0 := Aa.mk hr0
 have HC0 := Aa.mk hc0
 clear hr0 hc0
 have HB := Aa.mk (Below.refl w.heap.size w)
 have H := h
 clear h
 unfold Bn.f at H
 obtain ⟨t101, A3, H⟩ := zO H
 try dsimp only at H
 have H' := Aa.mk H
 clear H
 go_enter Tryz.func59, Tryz.ntmps59
 go_wp2_with (first | (refine gK 77 ?_; refine gL 10 Tryz.func77 #[.slice A0 l0.length c0, .int .i64 a1] ?_; (with_reducible refine (Cw.calls k _ _ l0 a1 t101 _ (zC HR0.out) HC0.out A3.out).mono ?_); rintro e w4 ⟨v102, rfl, ho0, hb⟩; refine ⟨_, rfl, ?_⟩; have n_ := y2 (Kd.Bk ho0 (An (zB))) (Ab (zB) hb); clear HB; obtain ⟨HO103, HB⟩ := n_; (try clear ho0 hb)))
 go_loopg [6, 7] k (fun kq v6 v7 w' => ∃ (x6_1 : Int) (x7_1 : Int), v6 = .int .i64 x6_1 ∧ v7 = .int .i64 x7_1 ∧ Aa (Bn.l0 kq t101 x6_1 x7_1 = some r) ∧ Aa (kq ≤ k) ∧ Aa (Kd.R (Kd.int .i64) 2 w' w.heap.size (fun _ => True) v102 t101) ∧ Aa (Below w.heap.size w w'))
 case atStart => exact ⟨(0), (0), zF, zF, H', ⟨Nat.le_refl _⟩, ⟨zR HO103.out⟩, ⟨zB⟩⟩
 clear H'
 obtain ⟨x6_1, x7_1, rfl, rfl, HA, HK1, HO_5, HB⟩ := hrel
 cases gk with
 | zero => exact absurd HA.out (by simp [Bn.l0])
 | succ k1 =>
  have H := HA.out
  clear HA
  simp only [Bn.l0] at H
  by_cases c5 : x7_1 < (t101.length : Int)
  case neg =>
   rw [if_neg c5] at H
   have c5b0 := decide_eq_false c5
   clear c5
   obtain rfl := Option.some.inj H
   obtain ⟨Ao9, co9, eo9⟩ := Kd.Bb HO_5.out
   subst eo9
   go_wp2
   go_ret
   exact ⟨zE, zB⟩
  rw [if_pos c5] at H
  have c5b0 := decide_eq_true c5
  clear c5
  by_cases c6 : 0 ≤ x7_1
  case neg => rw [if_neg c6] at H; exact absurd H (by simp)
  rw [if_pos c6] at H
  have c6b0 := decide_eq_true c6
  clear c6
  obtain ⟨ji7, hji7⟩ : ∃ j_ : Int, (mx x6_1 (rd t101 x7_1)) = j_ := ⟨_, rfl⟩
  replace H : (Bn.l0 k1 t101 ji7 (wrap64 (x7_1 + 1))) = some r := by first | (rw [hji7] at H; exact H) | (simp only [hji7] at H ⊢; exact H)
  have hji7_ : (if x6_1 < (rd t101 x7_1) then (rd t101 x7_1) else x6_1) = ji7 := hji7
  have H' := Aa.mk H
  clear H
  obtain ⟨Ao8, co8, eo8⟩ := Kd.Bb HO_5.out
  subst eo8
  have p104 : 0 ≤ (x7_1 : Int) := zD
  have q104 : x7_1 < (t101.length : Int) := zD
  obtain ⟨ad104, e104, hx104_0⟩ := Kd.Cv (Kd.Ae HO_5.out).2.2 x7_1 p104 q104
  cases e104
  replace p104 := eq_true p104
  replace q104 := eq_true q104
  go_wp2
  go_roundg k1
  case measure => have := HK1.out; omega
  case rel => exact ⟨(ji7), (wrap64 (x7_1 + 1)), (by first | rfl | (simp; done) | (simp only [← hji7] <;> (first | rfl | simp)) | (simp [*]; done)), zF, H', ⟨by have := HK1.out; omega⟩, ⟨zR HO_5.out⟩, ⟨zB⟩⟩
def Bg.l0 : Nat → Int → List Int → Int → Int → List Int → Int → Int → Option (List Int × Int × Int)
 | 0, _, _, _, _, _, _, _ => none
 | k + 1, x1, x5, x6, x7, x1000, x1001, x1002 => if x7 > 0 then ((Bf.f x1000 x1001 x1002 x1).bind fun bt119 => ((Bf.f x1000 bt119.2.1 bt119.2.2 (wrap64 (x6 + 3))).bind fun bt122 => (if bt122.1 = 0 then (if x5.length < 17592186044416 then (Bg.l0 k x1 (x5 ++ [(-1)]) x6 (wrap64 (x7 - 1)) x1000 bt122.2.1 bt122.2.2) else (none)) else (if x5.length < 17592186044416 then (Bg.l0 k x1 (x5 ++ [bt119.1]) x6 (wrap64 (x7 - 1)) x1000 bt122.2.1 bt122.2.2) else (none))))) else (some (x5, x1001, x1002))
def Bg.f (k : Nat) (s0_0 : List Int) (s0_1 : Int) (s0_2 : Int) (a1 : Int) : Option (List Int × Int × Int) := (Co.f s0_0 s0_1 s0_2 (([1, 4, 20] : List Int))).bind fun bt107 => ((Co.f s0_0 bt107.2.1 bt107.2.2 (([6, 12, 40, 120] : List Int))).bind fun bt113 => ((Bf.f s0_0 bt113.2.1 bt113.2.2 bt113.1).bind fun bt116 => (Bg.l0 k a1 (([] : List Int)) bt107.1 (wrap64 (1 + bt116.1)) s0_0 bt116.2.1 bt116.2.2)))
theorem Bg.mono_l : ∀ k, (∀ y0 y1 y2 y3 y4 y5 y6, LeO (Bg.l0 k y0 y1 y2 y3 y4 y5 y6) (Bg.l0 (k + 1) y0 y1 y2 y3 y4 y5 y6))
 | 0 => fun _ _ _ _ _ _ _ r h => by simp [Bg.l0] at h
 | k + 1 => by
  have ih0 := Bg.mono_l k
  ·
   intro y0 y1 y2 y3 y4 y5 y6
   unfold Bg.l0
   repeat' first | (with_reducible first | exact ih0 _ _ _ _ _ _ _ | exact LeO.refl _ | exact LeO.none _ | refine LeO.ite ?_ ?_ | refine LeO.bind ?_ (fun _ => ?_)) | exact ih0 _ _ _ _ _ _ _ | exact LeO.none _ | refine LeO.ite ?_ ?_ | refine LeO.bind ?_ (fun _ => ?_)
theorem Bg.mono : ∀ a0 a1 a2 a3 k, LeO (Bg.f k a0 a1 a2 a3) (Bg.f (k + 1) a0 a1 a2 a3) := by
 intro a0 a1 a2 a3 k
 have ih0 := Bg.mono_l k
 unfold Bg.f
 repeat' first | (with_reducible first | exact ih0 _ _ _ _ _ _ _ | exact LeO.refl _ | exact LeO.none _ | refine LeO.ite ?_ ?_ | refine LeO.bind ?_ (fun _ => ?_)) | exact ih0 _ _ _ _ _ _ _ | exact LeO.none _ | refine LeO.ite ?_ ?_ | refine LeO.bind ?_ (fun _ => ?_)
theorem Bg.calls (k : Nat) (g : Nat) (s0_0 : List Int) (s0_1 : Int) (s0_2 : Int) (a1 : Int) (r1 : List Int) (r2 : Int) (r3 : Int) (w0 w : World) (hI : Af w0 w g s0_0 s0_1 s0_2) (hB : Below w0.heap.size w0 w) (h : Bg.f k s0_0 s0_1 s0_2 a1 = some (r1, r2, r3)) :
    Calls Tryz.prog 64 #[.pointer (some ⟨g, 0, none⟩), .int .i64 a1] w fun e w' => ∃ v0_ : Value, e = .returned (v0_) ∧ Kd.R (Kd.int .i64) 2 w' w.heap.size (fun _ => True) v0_ r1 ∧ Af w0 w' g s0_0 r2 r3 ∧ Below w0.heap.size w0 w' ∧ Av w w' g none := by
 have HI0 := Aa.mk hI
 have HK := Aa.mk (Av.refl w g none)
 have HL := Aa.mk hB.size
 clear hI
 have HW0 := Aa.mk hB.size
 have HB := Aa.mk hB
 clear hB
 have H := h
 clear h
 unfold Bg.f at H
 obtain ⟨y101, hy101⟩ : ∃ y_ : List Int, y_ = (([] : List Int)) := ⟨_, rfl⟩
 replace H : ((Co.f s0_0 s0_1 s0_2 (([1, 4, 20] : List Int))).bind fun bt107 => ((Co.f s0_0 bt107.2.1 bt107.2.2 (([6, 12, 40, 120] : List Int))).bind fun bt113 => ((Bf.f s0_0 bt113.2.1 bt113.2.2 bt113.1).bind fun bt116 => (Bg.l0 k a1 y101 bt107.1 (wrap64 (1 + bt116.1)) s0_0 bt116.2.1 bt116.2.2)))) = some (r1, r2, r3) := zH hy101
 have Ny101 := Aa.mk hy101
 clear hy101
 obtain ⟨y104, hy104⟩ : ∃ y_ : List Int, y_ = (([1, 4, 20] : List Int)) := ⟨_, rfl⟩
 replace H : ((Co.f s0_0 s0_1 s0_2 y104).bind fun bt107 => ((Co.f s0_0 bt107.2.1 bt107.2.2 (([6, 12, 40, 120] : List Int))).bind fun bt113 => ((Bf.f s0_0 bt113.2.1 bt113.2.2 bt113.1).bind fun bt116 => (Bg.l0 k a1 y101 bt107.1 (wrap64 (1 + bt116.1)) s0_0 bt116.2.1 bt116.2.2)))) = some (r1, r2, r3) := zH hy104
 have Ny104 := Aa.mk hy104
 clear hy104
 obtain ⟨⟨t107, t108, t109⟩, A3, H⟩ := zO H
 try dsimp only at H
 obtain ⟨y110, hy110⟩ : ∃ y_ : List Int, y_ = (([6, 12, 40, 120] : List Int)) := ⟨_, rfl⟩
 replace H : ((Co.f s0_0 t108 t109 y110).bind fun bt113 => ((Bf.f s0_0 bt113.2.1 bt113.2.2 bt113.1).bind fun bt116 => (Bg.l0 k a1 y101 t107 (wrap64 (1 + bt116.1)) s0_0 bt116.2.1 bt116.2.2))) = some (r1, r2, r3) := zH hy110
 have Ny110 := Aa.mk hy110
 clear hy110
 obtain ⟨⟨t113, t114, t115⟩, A4, H⟩ := zO H
 try dsimp only at H
 obtain ⟨⟨t116, t117, t118⟩, A5, H⟩ := zO H
 try dsimp only at H
 have H' := Aa.mk H
 clear H
 go_enter Tryz.func64, Tryz.ntmps64
 go_wp2_with (first | ((with_reducible refine Ay (N := 9) rfl ?_); refine Kd.Kv (Kd.int .i64) _ 2 ?hg (N := 9) ?hd (xs := ([] : List Int)) (inner := []) (ok := fun _ => True) (okp := fun _ => True) ?hr ?hp (fun _ hk => hk) trivial (Below.refl _ _) (Nat.le_refl _) (by simp) ?_; (case hd => rfl); (case hg => rfl); (case hr => first | (go_simp; done) | (go_simp; rfl)); (case hp => exact (Dk.none _ _)); intro v102 w6 ho7 hb hg_ hnew_; clear hg_ hnew_; (first | rw [← Ny101.out] at ho7 | (simp only [Int.reduceToNat] at ho7; rw [← Ny101.out] at ho7)); have n_ := y4 (Kd.Bk ho7 (Di (w := w) (g := g) (row := none) (zK))) (Af.below (zI) hb) (Av.trans (zK) (Av.of_below hb g none) (.inl rfl)) (Ab (zB) hb); clear HI0 HK HB; obtain ⟨HO103, HI0, HK, HB⟩ := n_; clear hb ho7) | ((with_reducible refine Ay (N := 11) rfl ?_); refine Kd.Kv (Kd.int .i64) _ 2 ?hg (N := 11) ?hd (xs := ([1, 4, 20] : List Int)) (inner := [.int .i64 1, .int .i64 4, .int .i64 20]) (ok := fun _ => True) (okp := fun _ => True) ?hr ?hp (fun _ hk => hk) trivial (Below.refl _ _) (Nat.le_refl _) (by simp) ?_; (case hd => rfl); (case hg => rfl); (case hr => first | (go_simp; done) | (go_simp; rfl)); (case hp => exact (Dk.one (show Kd.M (Kd.int .i64) _ _ _ 1 [.int .i64 1] from rfl) (Dk.one (show Kd.M (Kd.int .i64) _ _ _ 4 [.int .i64 4] from rfl) (Dk.one (show Kd.M (Kd.int .i64) _ _ _ 20 [.int .i64 20] from rfl) (Dk.none _ _))))); intro v105 w8 ho9 hb hg_ hnew_; clear hg_ hnew_; (first | rw [← Ny104.out] at ho9 | (simp only [Int.reduceToNat] at ho9; rw [← Ny104.out] at ho9)); have n_ := y5 (Kd.Bu (zR HO103.out) (Kd.Bs ho9) hb) (Kd.Bk (Kd.Bt ho9 (Kd.Cx (zR HO103.out))) (Di (w := w) (g := g) (row := none) (zK))) (Af.below (zI) hb) (Av.trans (zK) (Av.of_below hb g none) (.inl rfl)) (Ab (zB) hb); clear HO103 HI0 HK HB; obtain ⟨HO103, HO106, HI0, HK, HB⟩ := n_; clear hb ho9; obtain ⟨Ao10, co10, eo10⟩ := Kd.Bb HO106.out; subst eo10) | (refine gK 52 ?_; refine gL 12 Tryz.func52 #[.pointer (some ⟨g, 0, none⟩), .slice Ao10 y104.length co10] ?_; (with_reducible refine (Co.calls g s0_0 s0_1 s0_2 _ _ y104 t107 t108 t109 w0 _ ?side1 ?side2 ?side3 ?side4 ?side5 A3.out).mono ?_); (case side1 => exact zI); (case side2 => exact zB); (case side3 => exact zC (Kd.Ae HO106.out).2.2); (case side4 => exact (Kd.Ae HO106.out).2.1); (case side5 => exact Gx (Af.Gd HI0.out HO106.out (by decide))); rintro e w11 ⟨rfl, hi, hb, hk⟩; refine ⟨_, rfl, ?_⟩; have n_ := y5 (Kd.Ai (Kd.Cz (Af.apart (show Af w0 _ g s0_0 s0_1 s0_2 from zI) (zR HO103.out) (by decide)) hk (fun _ h => h.2)) (fun _ h => h.1)) (Kd.Ai (Kd.Cz (Af.apart (show Af w0 _ g s0_0 s0_1 s0_2 from zI) (zR HO106.out) (by decide)) hk (fun _ h => h.2)) (fun _ h => h.1)) (Av.trans (zK) hk (.inl rfl)) (hb) (hi); clear HO103 HO106 HK HB HI0; obtain ⟨HO103, HO106, HK, HB, HI0⟩ := n_; (try clear hi hb hk)) | ((with_reducible refine Ay (N := 15) rfl ?_); refine Kd.Kv (Kd.int .i64) _ 2 ?hg (N := 15) ?hd (xs := ([6, 12, 40, 120] : List Int)) (inner := [.int .i64 6, .int .i64 12, .int .i64 40, .int .i64 120]) (ok := fun _ => True) (okp := fun _ => True) ?hr ?hp (fun _ hk => hk) trivial (Below.refl _ _) (Nat.le_refl _) (by simp) ?_; (case hd => rfl); (case hg => rfl); (case hr => first | (go_simp; done) | (go_simp; rfl)); (case hp => exact (Dk.one (show Kd.M (Kd.int .i64) _ _ _ 6 [.int .i64 6] from rfl) (Dk.one (show Kd.M (Kd.int .i64) _ _ _ 12 [.int .i64 12] from rfl) (Dk.one (show Kd.M (Kd.int .i64) _ _ _ 40 [.int .i64 40] from rfl) (Dk.one (show Kd.M (Kd.int .i64) _ _ _ 120 [.int .i64 120] from rfl) (Dk.none _ _)))))); intro v111 w12 ho13 hb hg_ hnew_; clear hg_ hnew_; (first | rw [← Ny110.out] at ho13 | (simp only [Int.reduceToNat] at ho13; rw [← Ny110.out] at ho13)); have n_ := y6 (Kd.Bu (zR HO103.out) (Kd.Bs ho13) hb) (Kd.Bu (zR HO106.out) (Kd.Bs ho13) hb) (Kd.Bk (Kd.Bt (Kd.Bt ho13 (Kd.Cx (zR HO103.out))) (Kd.Cx (zR HO106.out))) (Di (w := w) (g := g) (row := none) (zK))) (Af.below (zI) hb) (Av.trans (zK) (Av.of_below hb g none) (.inl rfl)) (Ab (zB) hb); clear HO103 HO106 HI0 HK HB; obtain ⟨HO103, HO106, HO112, HI0, HK, HB⟩ := n_; clear hb ho13; obtain ⟨Ao14, co14, eo14⟩ := Kd.Bb HO112.out; subst eo14) | (refine gK 52 ?_; refine gL 16 Tryz.func52 #[.pointer (some ⟨g, 0, none⟩), .slice Ao14 y110.length co14] ?_; (with_reducible refine (Co.calls g s0_0 t108 t109 _ _ y110 t113 t114 t115 w0 _ ?side1 ?side2 ?side3 ?side4 ?side5 A4.out).mono ?_); (case side1 => exact zI); (case side2 => exact zB); (case side3 => exact zC (Kd.Ae HO112.out).2.2); (case side4 => exact (Kd.Ae HO112.out).2.1); (case side5 => exact Gx (Af.Gd HI0.out HO112.out (by decide))); rintro e w15 ⟨rfl, hi, hb, hk⟩; refine ⟨_, rfl, ?_⟩; have n_ := y6 (Kd.Ai (Kd.Cz (Af.apart (show Af w0 _ g s0_0 t108 t109 from zI) (zR HO103.out) (by decide)) hk (fun _ h => h.2)) (fun _ h => h.1)) (Kd.Ai (Kd.Cz (Af.apart (show Af w0 _ g s0_0 t108 t109 from zI) (zR HO106.out) (by decide)) hk (fun _ h => h.2)) (fun _ h => h.1)) (Kd.Ai (Kd.Cz (Af.apart (show Af w0 _ g s0_0 t108 t109 from zI) (zR HO112.out) (by decide)) hk (fun _ h => h.2)) (fun _ h => h.1)) (Av.trans (zK) hk (.inl rfl)) (hb) (hi); clear HO103 HO106 HO112 HK HB HI0; obtain ⟨HO103, HO106, HO112, HK, HB, HI0⟩ := n_; (try clear hi hb hk)) | (refine gK 29 ?_; refine gL 17 Tryz.func29 #[.pointer (some ⟨g, 0, none⟩), .int .i64 t113] ?_; (with_reducible refine (Bf.calls g s0_0 t114 t115 t113 t116 t117 t118 w0 _ ?side1 ?side2 A5.out).mono ?_); (case side1 => exact zI); (case side2 => exact zB); rintro e w16 ⟨rfl, hi, hb, hk⟩; refine ⟨_, rfl, ?_⟩; have n_ := y6 (Kd.Ai (Kd.Cz (Af.apart (show Af w0 _ g s0_0 t114 t115 from zI) (zR HO103.out) (by decide)) hk (fun _ h => h.2)) (fun _ h => h.1)) (Kd.Ai (Kd.Cz (Af.apart (show Af w0 _ g s0_0 t114 t115 from zI) (zR HO106.out) (by decide)) hk (fun _ h => h.2)) (fun _ h => h.1)) (Kd.Ai (Kd.Cz (Af.apart (show Af w0 _ g s0_0 t114 t115 from zI) (zR HO112.out) (by decide)) hk (fun _ h => h.2)) (fun _ h => h.1)) (Av.trans (zK) hk (.inl rfl)) (hb) (hi); clear HO103 HO106 HO112 HK HB HI0; obtain ⟨HO103, HO106, HO112, HK, HB, HI0⟩ := n_; (try clear hi hb hk)))
 go_loopg [5, 7] k (fun kq v5 v7 w' => ∃ (x5_1 : List Int) (x7_1 : Int) (x1001_1 : Int) (x1002_1 : Int), v7 = .int .i64 x7_1 ∧ Aa (Bg.l0 kq a1 x5_1 t107 x7_1 s0_0 x1001_1 x1002_1 = some (r1, r2, r3)) ∧ Aa (kq ≤ k) ∧ Aa (Kd.R (Kd.int .i64) 2 w' w.heap.size (fun _ => True) v5 x5_1) ∧ Aa (Af w0 w' g s0_0 x1001_1 x1002_1) ∧ Aa (Av w w' g none) ∧ Aa (Below w0.heap.size w0 w'))
 case atStart => exact ⟨(y101), (wrap64 (1 + t116)), (t117), (t118), zF, H', ⟨Nat.le_refl _⟩, ⟨by refine zR ?_; exact Kd.Ai HO103.out (fun _ hk => trivial)⟩, ⟨zI⟩, ⟨zK⟩, ⟨zB⟩⟩
 clear H'
 obtain ⟨x5_1, x7_1, x1001_1, x1002_1, rfl, HA, HK1, HO_5, HI0, HK, HB⟩ := hrel
 cases gk with
 | zero => exact absurd HA.out (by simp [Bg.l0])
 | succ k1 =>
  have H := HA.out
  clear HA
  simp only [Bg.l0] at H
  by_cases c17 : x7_1 > 0
  case neg =>
   rw [if_neg c17] at H
   have c17b0 := decide_eq_false c17
   clear c17
   simp only [Option.some.injEq, Prod.mk.injEq] at H
   obtain ⟨rfl, rfl, rfl⟩ := H
   go_wp2
   go_ret
   exact ⟨_, zE, zR HO_5.out, zI, zB, zK⟩
  rw [if_pos c17] at H
  have c17b0 := decide_eq_true c17
  clear c17
  obtain ⟨⟨t119, t120, t121⟩, A18, H⟩ := zO H
  try dsimp only at H
  obtain ⟨⟨t122, t123, t124⟩, A19, H⟩ := zO H
  try dsimp only at H
  by_cases c20 : t122 = 0
  ·
   rw [if_pos c20] at H
   have c20b0 : (t122 == 0) = true := beq_iff_eq.mpr c20
   have c20b1 : (t122 != 0) = false := bne_eq_false_iff_eq.mpr c20
   clear c20
   by_cases c21 : x5_1.length < 17592186044416
   case neg => rw [if_neg c21] at H; exact absurd H (by simp)
   rw [if_pos c21] at H
   have LMc21 := Aa.mk c21
   clear c21
   obtain ⟨y125, hy125⟩ : ∃ y_ : List Int, y_ = (x5_1 ++ [(-1)]) := ⟨_, rfl⟩
   replace H : (Bg.l0 k1 a1 y125 t107 (wrap64 (x7_1 - 1)) s0_0 t123 t124) = some (r1, r2, r3) := zH hy125
   have Ny125 := Aa.mk hy125
   clear hy125
   have H' := Aa.mk H
   clear H
   go_wp2_with (first | (refine gK 29 ?_; refine gL 25 Tryz.func29 #[.pointer (some ⟨g, 0, none⟩), .int .i64 a1] ?_; (with_reducible refine (Bf.calls g s0_0 x1001_1 x1002_1 a1 t119 t120 t121 w0 _ ?side1 ?side2 A18.out).mono ?_); (case side1 => exact zI); (case side2 => exact zB); rintro e w22 ⟨rfl, hi, hb, hk⟩; refine ⟨_, rfl, ?_⟩; have n_ := y4 (Kd.Ai (Kd.Cz (Af.apart (show Af w0 _ g s0_0 x1001_1 x1002_1 from zI) (zR HO_5.out) (by decide)) hk (fun _ h => h.2)) (fun _ h => h.1)) (Av.trans (zK) hk (.inl rfl)) (hb) (hi); clear HO_5 HK HB HI0; obtain ⟨HO_5, HK, HB, HI0⟩ := n_; (try clear hi hb hk)) | (refine gK 29 ?_; refine gL 29 Tryz.func29 #[.pointer (some ⟨g, 0, none⟩), .int .i64 (wrap64 (t107 + 3))] ?_; (with_reducible refine (Bf.calls g s0_0 t120 t121 (wrap64 (t107 + 3)) t122 t123 t124 w0 _ ?side1 ?side2 A19.out).mono ?_); (case side1 => exact zI); (case side2 => exact zB); rintro e w23 ⟨rfl, hi, hb, hk⟩; refine ⟨_, rfl, ?_⟩; have n_ := y4 (Kd.Ai (Kd.Cz (Af.apart (show Af w0 _ g s0_0 t120 t121 from zI) (zR HO_5.out) (by decide)) hk (fun _ h => h.2)) (fun _ h => h.1)) (Av.trans (zK) hk (.inl rfl)) (hb) (hi); clear HO_5 HK HB HI0; obtain ⟨HO_5, HK, HB, HI0⟩ := n_; (try clear hi hb hk)) | ((with_reducible refine Dp (b := .append) (xs := #[.tmp 31, .tmp 33]) rfl ?_); at_builtin; refine Kd.Gk (Kd.int .i64) w.heap.size rfl (.tmp 31) (.tmp 33) 24 2 (.int .i64 0) 8 rfl Tryz.underlying24 Gb rfl (by decide) (by omega) u5 x5_1 (-1) [.int .i64 (-1)] (fun _ => True) (fun _ => False) rfl rfl ?aP (fun _ hk => hk.elim) ?aF ?aO (Below.refl _ _) ?aS ?aL ?_; (case aP => exact rfl); (case aF => exact (fun _ _ => trivial)); (case aO => exact (zR HO_5.out)); (case aS => exact (Di (w := w) (g := g) (row := none) (zK))); (case aL => have := LMc21.out; omega); intro v126 w24 ho hb hg hat; rw [← Ny125.out] at ho; have n_ := y4 (Af.grown (zI) hg (Af.Gd HI0.out HO_5.out (by decide))) (Lf (zB) HL.out hb) (Av.trans (zK) (Av.of_grown hg g) (Kd.Pb HO_5.out)) (ho); clear HI0 HB HK HO_5; obtain ⟨HI0, HB, HK, HO127⟩ := n_; clear ho hb hg hat))
   go_roundg k1
   case measure => have := HK1.out; omega
   case rel => exact ⟨(y125), (wrap64 (x7_1 - 1)), (t123), (t124), zF, H', ⟨by have := HK1.out; omega⟩, ⟨zR HO127.out⟩, ⟨zI⟩, ⟨zK⟩, ⟨zB⟩⟩
  rw [if_neg c20] at H
  have c20b0 : (t122 == 0) = false := beq_eq_false_iff_ne.mpr c20
  have c20b1 : (t122 != 0) = true := bne_iff_ne.mpr c20
  by_cases c25 : x5_1.length < 17592186044416
  case neg => rw [if_neg c25] at H; exact absurd H (by simp)
  rw [if_pos c25] at H
  have LMc25 := Aa.mk c25
  clear c25
  obtain ⟨y128, hy128⟩ : ∃ y_ : List Int, y_ = (x5_1 ++ [t119]) := ⟨_, rfl⟩
  replace H : (Bg.l0 k1 a1 y128 t107 (wrap64 (x7_1 - 1)) s0_0 t123 t124) = some (r1, r2, r3) := zH hy128
  have Ny128 := Aa.mk hy128
  clear hy128
  have H' := Aa.mk H
  clear H
  go_wp2_with (first | (refine gK 29 ?_; refine gL 25 Tryz.func29 #[.pointer (some ⟨g, 0, none⟩), .int .i64 a1] ?_; (with_reducible refine (Bf.calls g s0_0 x1001_1 x1002_1 a1 t119 t120 t121 w0 _ ?side1 ?side2 A18.out).mono ?_); (case side1 => exact zI); (case side2 => exact zB); rintro e w26 ⟨rfl, hi, hb, hk⟩; refine ⟨_, rfl, ?_⟩; have n_ := y4 (Kd.Ai (Kd.Cz (Af.apart (show Af w0 _ g s0_0 x1001_1 x1002_1 from zI) (zR HO_5.out) (by decide)) hk (fun _ h => h.2)) (fun _ h => h.1)) (Av.trans (zK) hk (.inl rfl)) (hb) (hi); clear HO_5 HK HB HI0; obtain ⟨HO_5, HK, HB, HI0⟩ := n_; (try clear hi hb hk)) | (refine gK 29 ?_; refine gL 29 Tryz.func29 #[.pointer (some ⟨g, 0, none⟩), .int .i64 (wrap64 (t107 + 3))] ?_; (with_reducible refine (Bf.calls g s0_0 t120 t121 (wrap64 (t107 + 3)) t122 t123 t124 w0 _ ?side1 ?side2 A19.out).mono ?_); (case side1 => exact zI); (case side2 => exact zB); rintro e w27 ⟨rfl, hi, hb, hk⟩; refine ⟨_, rfl, ?_⟩; have n_ := y4 (Kd.Ai (Kd.Cz (Af.apart (show Af w0 _ g s0_0 t120 t121 from zI) (zR HO_5.out) (by decide)) hk (fun _ h => h.2)) (fun _ h => h.1)) (Av.trans (zK) hk (.inl rfl)) (hb) (hi); clear HO_5 HK HB HI0; obtain ⟨HO_5, HK, HB, HI0⟩ := n_; (try clear hi hb hk)) | ((with_reducible refine Dp (b := .append) (xs := #[.tmp 31, .tmp 33]) rfl ?_); at_builtin; refine Kd.Gk (Kd.int .i64) w.heap.size rfl (.tmp 31) (.tmp 33) 24 2 (.int .i64 0) 8 rfl Tryz.underlying24 Gb rfl (by decide) (by omega) u5 x5_1 t119 [.int .i64 t119] (fun _ => True) (fun _ => False) rfl rfl ?aP (fun _ hk => hk.elim) ?aF ?aO (Below.refl _ _) ?aS ?aL ?_; (case aP => exact rfl); (case aF => exact (fun _ _ => trivial)); (case aO => exact (zR HO_5.out)); (case aS => exact (Di (w := w) (g := g) (row := none) (zK))); (case aL => have := LMc25.out; omega); intro v129 w28 ho hb hg hat; rw [← Ny128.out] at ho; have n_ := y4 (Af.grown (zI) hg (Af.Gd HI0.out HO_5.out (by decide))) (Lf (zB) HL.out hb) (Av.trans (zK) (Av.of_grown hg g) (Kd.Pb HO_5.out)) (ho); clear HI0 HB HK HO_5; obtain ⟨HI0, HB, HK, HO130⟩ := n_; clear ho hb hg hat))
  go_roundg k1
  case measure => have := HK1.out; omega
  case rel => exact ⟨(y128), (wrap64 (x7_1 - 1)), (t123), (t124), zF, H', ⟨by have := HK1.out; omega⟩, ⟨zR HO130.out⟩, ⟨zI⟩, ⟨zK⟩, ⟨zB⟩⟩
mutual
def Ah.l0 : Nat → Int → List Int → Int → List Int → Int → Int → Option (List Int × List Int × Int × Int)
 | 0, _, _, _, _, _, _ => none
 | k + 1, x4, x5, x6, x1000, x1001, x1002 => if x6 < x4 then (Ah.j1 k x4 x5 x6 (decide (x6 < (x5.length : Int))) x1000 x1001 x1002) else (Ah.j1 k x4 x5 x6 false x1000 x1001 x1002)
def Ah.j1 : Nat → Int → List Int → Int → Bool → List Int → Int → Int → Option (List Int × List Int × Int × Int)
 | 0, _, _, _, _, _, _, _ => none
 | k + 1, x4, x5, x6, x27, x1000, x1001, x1002 => if x27 = true then ((Bn.f k x5 x6).bind fun t116 => (if t116 = 0 then (if 0 ≤ x6 then (if x6 < (x5.length : Int) then (Ah.l0 k x4 (x5.set (x6 : Int).toNat x6) (wrap64 (x6 + 1)) x1000 x1001 x1002) else (none)) else (none)) else (Ah.l0 k x4 x5 (wrap64 (x6 + 1)) x1000 x1001 x1002))) else (Ah.l1 k x4 x5 0 x1000 x1001 x1002 (([] : List Int)))
def Ah.l1 : Nat → Int → List Int → Int → List Int → Int → Int → List Int → Option (List Int × List Int × Int × Int)
 | 0, _, _, _, _, _, _, _ => none
 | k + 1, x4, x5, x8, x1000, x1001, x1002, x122000 => if x8 < x4 then ((Bn.f k x5 x8).bind fun t122 => (if t122 = 0 then (Ah.j3 k x4 x5 x8 40 x1000 x1001 x1002 x122000) else (Ah.j3 k x4 x5 x8 t122 x1000 x1001 x1002 x122000))) else (some (x122000, x5, x1001, x1002))
def Ah.j3 : Nat → Int → List Int → Int → Int → List Int → Int → Int → List Int → Option (List Int × List Int × Int × Int)
 | 0, _, _, _, _, _, _, _, _ => none
 | k + 1, x4, x5, x8, x9, x1000, x1001, x1002, x122000 => (Bf.f x1000 x1001 x1002 4).bind fun bt123 => (if bt123.1 = 0 then ((Bf.f x1000 bt123.2.1 bt123.2.2 4).bind fun bt126 => (if x122000.length < 17592186044416 then (Ah.l1 k x4 x5 (wrap64 (x8 + 1)) x1000 bt126.2.1 bt126.2.2 (x122000 ++ [mx (mn (wrap64 ((wrap64 (x9 + bt126.1)) - 1)) 40) 1])) else (none))) else (if x122000.length < 17592186044416 then (Ah.l1 k x4 x5 (wrap64 (x8 + 1)) x1000 bt123.2.1 bt123.2.2 (x122000 ++ [mx (mn x9 40) 1])) else (none)))
end
def Ah.f (k : Nat) (s0_0 : List Int) (s0_1 : Int) (s0_2 : Int) : Option (List Int × List Int × Int × Int) := (Co.f s0_0 s0_1 s0_2 (([3, 5, 8] : List Int))).bind fun bt105 => ((Bf.f s0_0 bt105.2.1 bt105.2.2 bt105.1).bind fun bt108 => ((Bg.f k s0_0 bt108.2.1 bt108.2.2 (wrap64 (1 + bt108.1))).bind fun bt111 => (Ah.l0 k (wrap64 (1 + bt108.1)) bt111.1 0 s0_0 bt111.2.1 bt111.2.2)))
theorem Ah.mono_l : ∀ k, (∀ y0 y1 y2 y3 y4 y5, LeO (Ah.l0 k y0 y1 y2 y3 y4 y5) (Ah.l0 (k + 1) y0 y1 y2 y3 y4 y5)) ∧ (∀ y0 y1 y2 y3 y4 y5 y6, LeO (Ah.j1 k y0 y1 y2 y3 y4 y5 y6) (Ah.j1 (k + 1) y0 y1 y2 y3 y4 y5 y6)) ∧ (∀ y0 y1 y2 y3 y4 y5 y6, LeO (Ah.l1 k y0 y1 y2 y3 y4 y5 y6) (Ah.l1 (k + 1) y0 y1 y2 y3 y4 y5 y6)) ∧ (∀ y0 y1 y2 y3 y4 y5 y6 y7, LeO (Ah.j3 k y0 y1 y2 y3 y4 y5 y6 y7) (Ah.j3 (k + 1) y0 y1 y2 y3 y4 y5 y6 y7))
 | 0 => ⟨fun _ _ _ _ _ _ r h => by simp [Ah.l0] at h, fun _ _ _ _ _ _ _ r h => by simp [Ah.j1] at h, fun _ _ _ _ _ _ _ r h => by simp [Ah.l1] at h, fun _ _ _ _ _ _ _ _ r h => by simp [Ah.j3] at h⟩
 | k + 1 => by
  obtain ⟨ih0, ih1, ih2, ih3⟩ := Ah.mono_l k
  refine ⟨?_, ?_, ?_, ?_⟩ <;> intros <;> (first | unfold Ah.l0 | unfold Ah.j1 | unfold Ah.l1 | unfold Ah.j3) <;> repeat' first | (with_reducible first | exact ih0 _ _ _ _ _ _ | exact ih1 _ _ _ _ _ _ _ | exact ih2 _ _ _ _ _ _ _ | exact ih3 _ _ _ _ _ _ _ _ | exact Bg.mono _ _ _ _ _ | exact Bn.mono _ _ _ | exact LeO.refl _ | exact LeO.none _ | refine LeO.ite ?_ ?_ | refine LeO.bind ?_ (fun _ => ?_)) | exact ih0 _ _ _ _ _ _ | exact ih1 _ _ _ _ _ _ _ | exact ih2 _ _ _ _ _ _ _ | exact ih3 _ _ _ _ _ _ _ _ | exact Bg.mono _ _ _ _ _ | exact Bn.mono _ _ _ | exact LeO.none _ | refine LeO.ite ?_ ?_ | refine LeO.bind ?_ (fun _ => ?_)
theorem Ah.mono : ∀ a0 a1 a2 k, LeO (Ah.f k a0 a1 a2) (Ah.f (k + 1) a0 a1 a2) := by
 intro a0 a1 a2 k
 obtain ⟨ih0, ih1, ih2, ih3⟩ := Ah.mono_l k
 unfold Ah.f
 repeat' first | (with_reducible first | exact ih0 _ _ _ _ _ _ | exact ih1 _ _ _ _ _ _ _ | exact ih2 _ _ _ _ _ _ _ | exact ih3 _ _ _ _ _ _ _ _ | exact Bg.mono _ _ _ _ _ | exact Bn.mono _ _ _ | exact LeO.refl _ | exact LeO.none _ | refine LeO.ite ?_ ?_ | refine LeO.bind ?_ (fun _ => ?_)) | exact ih0 _ _ _ _ _ _ | exact ih1 _ _ _ _ _ _ _ | exact ih2 _ _ _ _ _ _ _ | exact ih3 _ _ _ _ _ _ _ _ | exact Bg.mono _ _ _ _ _ | exact Bn.mono _ _ _ | exact LeO.none _ | refine LeO.ite ?_ ?_ | refine LeO.bind ?_ (fun _ => ?_)
theorem Ah.calls (k : Nat) (g : Nat) (s0_0 : List Int) (s0_1 : Int) (s0_2 : Int) (r1 : List Int) (r2 : List Int) (r3 : Int) (r4 : Int) (w0 w : World) (hI : Af w0 w g s0_0 s0_1 s0_2) (hB : Below w0.heap.size w0 w) (h : Ah.f k s0_0 s0_1 s0_2 = some (r1, r2, r3, r4)) :
    Calls Tryz.prog 51 #[.pointer (some ⟨g, 0, none⟩)] w fun e w' => ∃ v0_ v1_ : Value, e = .returned (.tuple #[.agg #[v0_], v1_]) ∧ Kd.R (Kd.int .i64) 2 w' w.heap.size (fun k_ => some k_ ≠ (v1_ : Value).ownBlock) v0_ r1 ∧ Kd.R (Kd.int .i64) 2 w' w.heap.size (fun k_ => some k_ ≠ (v0_ : Value).ownBlock) v1_ r2 ∧ Af w0 w' g s0_0 r3 r4 ∧ Below w0.heap.size w0 w' ∧ Av w w' g none := by
 have hu26 := Tryz.underlying26
 have HI0 := Aa.mk hI
 have HK := Aa.mk (Av.refl w g none)
 have HL := Aa.mk hB.size
 clear hI
 have HW0 := Aa.mk hB.size
 have HB := Aa.mk hB
 clear hB
 have H := h
 clear h
 unfold Ah.f at H
 obtain ⟨y102, hy102⟩ : ∃ y_ : List Int, y_ = (([3, 5, 8] : List Int)) := ⟨_, rfl⟩
 replace H : ((Co.f s0_0 s0_1 s0_2 y102).bind fun bt105 => ((Bf.f s0_0 bt105.2.1 bt105.2.2 bt105.1).bind fun bt108 => ((Bg.f k s0_0 bt108.2.1 bt108.2.2 (wrap64 (1 + bt108.1))).bind fun bt111 => (Ah.l0 k (wrap64 (1 + bt108.1)) bt111.1 0 s0_0 bt111.2.1 bt111.2.2)))) = some (r1, r2, r3, r4) := zH hy102
 have Ny102 := Aa.mk hy102
 clear hy102
 obtain ⟨⟨t105, t106, t107⟩, A2, H⟩ := zO H
 try dsimp only at H
 obtain ⟨⟨t108, t109, t110⟩, A3, H⟩ := zO H
 try dsimp only at H
 obtain ⟨⟨t111, t114, t115⟩, A4, H⟩ := zO H
 try dsimp only at H
 have H' := Aa.mk H
 clear H
 go_enter Tryz.func51, Tryz.ntmps51
 go_wp2_with (first | ((with_reducible refine Ay (N := 2) rfl ?_); (try (refine Ed (by rfl) ?_; dsimp only)); refine Be zr (N := 2) zr (cs := #[.slice none 0 0]) (t := 26) zg ?_; intro gb101 hg w5 hbox hb; have n_ := y8 (Af.below (zI) hb) (Av.trans (zK) (Av.of_below hb g none) (.inl rfl)) (Ab (zB) hb) (hbox) ((by rw [hg]; exact (Di (w := w) (g := g) (row := none) (zK)) : w.heap.size ≤ gb101)) ((Nat.le_trans HW0.out (by rw [hg]; exact (Di (w := w) (g := g) (row := none) (zK)) : w.heap.size ≤ gb101) : w0.heap.size ≤ gb101)) ((by rw [hg]; exact Nat.ne_of_lt (Af.lt (show Af w0 _ g s0_0 s0_1 s0_2 from zI)) : g ≠ gb101)) ((by rw [hg]; exact Nat.ne_of_gt (Af.lt (show Af w0 _ g s0_0 s0_1 s0_2 from zI)) : gb101 ≠ g)); clear HI0 HK HB; obtain ⟨HI0, HK, HB, BK101, GW101, GE101, NB0_101, NB101_0⟩ := n_; clear hb hbox hg) | ((with_reducible refine Ay (N := 12) rfl ?_); (try (refine Ed (by rfl) ?_; dsimp only)); refine Kd.Kv (Kd.int .i64) _ 2 ?hg (N := 12) ?hd (xs := ([3, 5, 8] : List Int)) (inner := [.int .i64 3, .int .i64 5, .int .i64 8]) (ok := fun _ => True) (okp := fun _ => True) ?hr ?hp (fun _ hk => hk) trivial (Below.refl _ _) (Nat.le_refl _) (by simp) ?_; (case hd => rfl); (case hg => rfl); (case hr => first | (go_simp; done) | (go_simp; rfl)); (case hp => exact (Dk.one (show Kd.M (Kd.int .i64) _ _ _ 3 [.int .i64 3] from rfl) (Dk.one (show Kd.M (Kd.int .i64) _ _ _ 5 [.int .i64 5] from rfl) (Dk.one (show Kd.M (Kd.int .i64) _ _ _ 8 [.int .i64 8] from rfl) (Dk.none _ _))))); intro v103 w6 ho7 hb hg_ hnew_; clear hg_ hnew_; (first | rw [← Ny102.out] at ho7 | (simp only [Int.reduceToNat] at ho7; rw [← Ny102.out] at ho7)); have n_ := y5 (Kd.Bk ho7 (Di (w := w) (g := g) (row := none) (zK))) (Af.below (zI) hb) (zb BK101.out hb) (Av.trans (zK) (Av.of_below hb g none) (.inl rfl)) (Ab (zB) hb); clear HI0 BK101 HK HB; obtain ⟨HO104, HI0, BK101, HK, HB⟩ := n_; clear hb ho7; obtain ⟨Ao8, co8, eo8⟩ := Kd.Bb HO104.out; subst eo8) | (refine gK 52 ?_; refine gL 13 Tryz.func52 #[.pointer (some ⟨g, 0, none⟩), .slice Ao8 y102.length co8] ?_; (with_reducible refine (Co.calls g s0_0 s0_1 s0_2 _ _ y102 t105 t106 t107 w0 _ ?side1 ?side2 ?side3 ?side4 ?side5 A2.out).mono ?_); (case side1 => exact zI); (case side2 => exact zB); (case side3 => exact zC (Kd.Ae HO104.out).2.2); (case side4 => exact (Kd.Ae HO104.out).2.1); (case side5 => exact Gx (Af.Gd HI0.out HO104.out (by decide))); rintro e w9 ⟨rfl, hi, hb, hk⟩; refine ⟨_, rfl, ?_⟩; have n_ := y5 (zW BK101.out hk NB101_0.out) (Kd.Ai (Kd.Cz (Af.apart (show Af w0 _ g s0_0 s0_1 s0_2 from zI) (zR HO104.out) (by decide)) hk (fun _ h => h.2)) (fun _ h => h.1)) (Av.trans (zK) hk (.inl rfl)) (hb) (hi); clear BK101 HO104 HK HB HI0; obtain ⟨BK101, HO104, HK, HB, HI0⟩ := n_; (try clear hi hb hk)) | (refine gK 29 ?_; refine gL 14 Tryz.func29 #[.pointer (some ⟨g, 0, none⟩), .int .i64 t105] ?_; (with_reducible refine (Bf.calls g s0_0 t106 t107 t105 t108 t109 t110 w0 _ ?side1 ?side2 A3.out).mono ?_); (case side1 => exact zI); (case side2 => exact zB); rintro e w10 ⟨rfl, hi, hb, hk⟩; refine ⟨_, rfl, ?_⟩; have n_ := y5 (zW BK101.out hk NB101_0.out) (Kd.Ai (Kd.Cz (Af.apart (show Af w0 _ g s0_0 t106 t107 from zI) (zR HO104.out) (by decide)) hk (fun _ h => h.2)) (fun _ h => h.1)) (Av.trans (zK) hk (.inl rfl)) (hb) (hi); clear BK101 HO104 HK HB HI0; obtain ⟨BK101, HO104, HK, HB, HI0⟩ := n_; (try clear hi hb hk)) | (refine gK 64 ?_; refine gL 18 Tryz.func64 #[.pointer (some ⟨g, 0, none⟩), .int .i64 (wrap64 (1 + t108))] ?_; (with_reducible refine (Bg.calls k g s0_0 t109 t110 (wrap64 (1 + t108)) t111 t114 t115 w0 _ ?side1 ?side2 A4.out).mono ?_); (case side1 => exact zI); (case side2 => exact zB); rintro e w11 ⟨v112, rfl, ho0, hi, hb, hk⟩; refine ⟨_, rfl, ?_⟩; have n_ := y6 (zW BK101.out hk NB101_0.out) (Kd.Ai (Kd.Ez (Kd.No (Af.apart (show Af w0 _ g s0_0 t109 t110 from zI) (zR HO104.out) (by decide)) hk) (Kd.Bs ho0)) (fun _ h_ => h_.1)) (Kd.Bk (Kd.Bt ho0 (Kd.Cx (zR HO104.out))) (Di (w := w) (g := g) (row := none) (zK))) (Av.trans (zK) hk (.inl rfl)) (hb) (hi); clear BK101 HO104 HK HB HI0; obtain ⟨BK101, HO104, HO113, HK, HB, HI0⟩ := n_; (try clear ho0 hi hb hk)))
 go_loopg [6] k (fun kq v6 w' => ∃ (x5_1 : List Int) (x6_1 : Int), v6 = .int .i64 x6_1 ∧ Aa (Ah.l0 kq (wrap64 (1 + t108)) x5_1 x6_1 s0_0 t114 t115 = some (r1, r2, r3, r4)) ∧ Aa (kq ≤ k) ∧ Aa (Kd.R (Kd.int .i64) 2 w' w.heap.size (fun _ => True) v112 x5_1) ∧ Aa (w'.heap[gb101]? = some (.cells #[(.slice none 0 0)] 26 (0, 0))) ∧ Aa (Af w0 w' g s0_0 t114 t115) ∧ Aa (Av w w' g none) ∧ Aa (Below w0.heap.size w0 w'))
 case atStart => exact ⟨(t111), (0), zF, H', ⟨Nat.le_refl _⟩, ⟨by refine zR ?_; exact Kd.Ai HO113.out (fun _ hk => trivial)⟩, ⟨zG BK101.out⟩, ⟨zI⟩, ⟨zK⟩, ⟨zB⟩⟩
 clear H'
 obtain ⟨x5_1, x6_1, rfl, HA, HK1, HO_5, BK101, HI0, HK, HB⟩ := hrel
 cases gk with
 | zero => exact absurd HA.out (by simp [Ah.l0])
 | succ k1 =>
  have H := HA.out
  clear HA
  simp only [Ah.l0] at H
  have HC12 := Aa.mk H
  clear H
  go_upto_region 4 with (fail)
  go_cut [27] (fun v27 wc => ∃ (kq : Nat) (x27_11 : Bool), v27 = .bool x27_11 ∧ Aa (Ah.j1 kq (wrap64 (1 + t108)) x5_1 x6_1 x27_11 s0_0 t114 t115 = some (r1, r2, r3, r4)) ∧ Aa (kq ≤ k1) ∧ Aa (Kd.R (Kd.int .i64) 2 wc w.heap.size (fun _ => True) v112 x5_1) ∧ Aa (wc.heap[gb101]? = some (.cells #[(.slice none 0 0)] 26 (0, 0))) ∧ Aa (Af w0 wc g s0_0 t114 t115) ∧ Aa (Av w wc g none) ∧ Aa (Below w0.heap.size w0 wc))
  case first =>
   have H := HC12.out
   clear HC12
   by_cases c13 : x6_1 < (wrap64 (1 + t108))
   ·
    rw [if_pos c13] at H
    have c13b0 := decide_eq_true c13
    clear c13
    (first | rw [c13b0] | (simp only [Ec, En]; rw [c13b0]) | skip)
    have H' := Aa.mk H
    clear H
    obtain ⟨Ao14, co14, eo14⟩ := Kd.Bb HO_5.out
    subst eo14
    go_wp2
    go_meet
    case rel => exact ⟨_, (decide (x6_1 < (x5_1.length : Int))), zF, H', ⟨by have := HK1.out; first | omega | exact Nat.le_refl _⟩, ⟨zR HO_5.out⟩, ⟨zG BK101.out⟩, ⟨zI⟩, ⟨zK⟩, ⟨zB⟩⟩
   rw [if_neg c13] at H
   have c13b0 := decide_eq_false c13
   clear c13
   (first | rw [c13b0] | (simp only [Ec, En]; rw [c13b0]) | skip)
   have H' := Aa.mk H
   clear H
   go_wp2
   go_meet
   case rel => exact ⟨_, (false), zF, H', ⟨by have := HK1.out; first | omega | exact Nat.le_refl _⟩, ⟨zR HO_5.out⟩, ⟨zG BK101.out⟩, ⟨zI⟩, ⟨zK⟩, ⟨zB⟩⟩
  clear HC12
  obtain ⟨kq, x27_11, rfl, HA, HJ11, HO_5, BK101, HI0, HK, HB⟩ := hcut
  cases kq with
  | zero => exact absurd HA.out (by simp [Ah.j1])
  | succ kj11 =>
   have H := HA.out
   clear HA
   simp only [Ah.j1] at H
   by_cases c15 : x27_11 = true
   ·
    subst c15
    rw [if_pos rfl] at H
    obtain ⟨t116, A16, H⟩ := zO H
    try dsimp only at H
    by_cases c17 : t116 = 0
    case neg =>
     rw [if_neg c17] at H
     have c17b0 : (t116 == 0) = false := beq_eq_false_iff_ne.mpr c17
     have c17b1 : (t116 != 0) = true := bne_iff_ne.mpr c17
     have H' := Aa.mk H
     clear H
     obtain ⟨Ao25, co25, eo25⟩ := Kd.Bb HO_5.out
     subst eo25
     go_wp2_with (first | (refine gK 59 ?_; refine gL 32 Tryz.func59 #[.slice Ao25 x5_1.length co25, .int .i64 x6_1] ?_; (with_reducible refine (Bn.calls kj11 _ _ x5_1 x6_1 t116 _ ?side1 ?side2 A16.out).mono ?_); (case side1 => exact zC (Kd.Ae HO_5.out).2.2); (case side2 => exact (Kd.Ae HO_5.out).2.1); rintro e w26 ⟨rfl, hb⟩; refine ⟨_, rfl, ?_⟩; have n_ := y5 (Kd.Ap (zR HO_5.out) hb) (zb BK101.out hb) (Af.below (zI) hb) (Av.trans (zK) (Av.of_below hb g none) (.inl rfl)) (Ab (zB) hb); clear HO_5 BK101 HI0 HK HB; obtain ⟨HO_5, BK101, HI0, HK, HB⟩ := n_; (try clear hb)))
     go_roundg kj11
     case measure => have := HK1.out; have := HJ11.out; omega
     case rel => exact ⟨(x5_1), (wrap64 (x6_1 + 1)), zF, H', ⟨by have := HK1.out; have := HJ11.out; omega⟩, ⟨zR HO_5.out⟩, ⟨zG BK101.out⟩, ⟨zI⟩, ⟨zK⟩, ⟨zB⟩⟩
    rw [if_pos c17] at H
    have c17b0 : (t116 == 0) = true := beq_iff_eq.mpr c17
    have c17b1 : (t116 != 0) = false := bne_eq_false_iff_eq.mpr c17
    clear c17
    by_cases c18 : 0 ≤ x6_1
    case neg => rw [if_neg c18] at H; exact absurd H (by simp)
    rw [if_pos c18] at H
    have c18b0 := decide_eq_true c18
    clear c18
    by_cases c19 : x6_1 < (x5_1.length : Int)
    case neg => rw [if_neg c19] at H; exact absurd H (by simp)
    rw [if_pos c19] at H
    have c19b0 := decide_eq_true c19
    clear c19
    obtain ⟨y117, hy117⟩ : ∃ y_ : List Int, y_ = (x5_1.set (x6_1 : Int).toNat x6_1) := ⟨_, rfl⟩
    replace H : (Ah.l0 kj11 (wrap64 (1 + t108)) y117 (wrap64 (x6_1 + 1)) s0_0 t114 t115) = some (r1, r2, r3, r4) := zH hy117
    have Ny117 := Aa.mk hy117
    clear hy117
    have H' := Aa.mk H
    clear H
    obtain ⟨Ao21, co21, eo21⟩ := Kd.Bb HO_5.out
    subst eo21
    go_wp2_with (first | (refine gK 59 ?_; refine gL 32 Tryz.func59 #[.slice Ao21 x5_1.length co21, .int .i64 x6_1] ?_; (with_reducible refine (Bn.calls kj11 _ _ x5_1 x6_1 t116 _ ?side1 ?side2 A16.out).mono ?_); (case side1 => exact zC (Kd.Ae HO_5.out).2.2); (case side2 => exact (Kd.Ae HO_5.out).2.1); rintro e w22 ⟨rfl, hb⟩; refine ⟨_, rfl, ?_⟩; have n_ := y5 (Kd.Ap (zR HO_5.out) hb) (zb BK101.out hb) (Af.below (zI) hb) (Av.trans (zK) (Av.of_below hb g none) (.inl rfl)) (Ab (zB) hb); clear HO_5 BK101 HI0 HK HB; obtain ⟨HO_5, BK101, HI0, HK, HB⟩ := n_; (try clear hb); have p20 : 0 ≤ (x6_1 : Int) := zD; have q20 : (x6_1 : Int) < ((x5_1.length : Int) : Int) := zD; obtain ⟨go20, co20, eo20, gb20, gl20, cl20, HG20⟩ := Kd.Lk HO_5.out (by omega); (first | cases eo20 | (injection eo20 with ea_ en_ ec_; (first | subst ea_ | (injection ea_ with ea_; subst ea_)); subst ec_; clear en_)); have GB20 := Aa.mk gb20; have GG20 := Aa.mk HG20; clear gb20 gl20 HG20; obtain ⟨hx20_0, hf20_0⟩ := Kd.Fx 0 HO_5.out (x6_1 : Int) p20 q20; replace p20 := eq_true p20; replace q20 := eq_true q20; obtain ⟨hy23_, hz23_⟩ := Kd.Fx 0 HO_5.out (x6_1 : Int) (zD) (zD); have HP23 := Kd.Pu HO_5.out (x6_1 : Int) x6_1) | ((with_reducible refine Ku (t := 2) (p := 37) rfl ?_); refine Kh (t := 2) (p := 37) (v := ?vo_w24) (w1 := (w22.setCell ⟨go20, (x6_1 : Int).toNat, none⟩ (.int .i64 x6_1))) ?hg ?ho ?hn ?hr ?_; (case ho => rfl); (case hg => rfl); (case hn => rfl); (case hr => first | (go_simp; done) | (go_simp; rfl)); intro w24 hw; have hg : w22.grownBy w24 (some go20) := (by rw [hw]; exact HP23.2); have hp_ : Kd.R (Kd.int .i64) 2 w24 w.heap.size (fun _ => True) (.slice (some ⟨go20, 0, none⟩) x5_1.length co21) y117 := (by rw [hw, Ny117.out]; exact HP23.1); clear HP23; have n_ := y5 (hp_) (Cm (g := gb101) (o := .cells #[.slice none 0 0] 26 (0, 0)) (zG BK101.out) hg (Kd.Em HO_5.out BK101.out (by decide))) (Af.grown (zI) hg (Af.Gd HI0.out HO_5.out (by decide))) ((by rw [hw]; exact Gl (HB.out) (Nat.le_trans HL.out GB20.out) : Below w0.heap.size w0 w24)) (Av.trans (zK) (Av.of_grown hg g) (Kd.Pb HO_5.out)); clear HO_5 BK101 HI0 HB HK; obtain ⟨HO_5, BK101, HI0, HB, HK⟩ := n_; clear hg hw hp_))
    go_roundg kj11
    case measure => have := HK1.out; have := HJ11.out; omega
    case rel => exact ⟨(y117), (wrap64 (x6_1 + 1)), zF, H', ⟨by have := HK1.out; have := HJ11.out; omega⟩, ⟨zR HO_5.out⟩, ⟨zG BK101.out⟩, ⟨zI⟩, ⟨zK⟩, ⟨zB⟩⟩
   replace c15 := Bool.eq_false_iff.mpr c15
   subst c15
   rw [if_neg zf] at H
   obtain ⟨y118, hy118⟩ : ∃ y_ : List Int, y_ = (([] : List Int)) := ⟨_, rfl⟩
   replace H : (Ah.l1 kj11 (wrap64 (1 + t108)) x5_1 0 s0_0 t114 t115 y118) = some (r1, r2, r3, r4) := zH hy118
   have Ny118 := Aa.mk hy118
   clear hy118
   have H' := Aa.mk H
   clear H
   go_wp2_with (first | ((with_reducible refine Ay (N := 38) rfl ?_); (try (refine Ed (by rfl) ?_; dsimp only)); refine Kd.Kv (Kd.int .i64) _ 2 ?hg (N := 38) ?hd (xs := ([] : List Int)) (inner := []) (ok := fun _ => True) (okp := fun _ => True) ?hr ?hp (fun _ hk => hk) trivial (Below.refl _ _) (Nat.le_refl _) (by simp) ?_; (case hd => rfl); (case hg => rfl); (case hr => first | (go_simp; done) | (go_simp; rfl)); (case hp => exact (Dk.none _ _)); intro v119 w27 ho28 hb hg_ hnew_; clear hg_ hnew_; (first | rw [← Ny118.out] at ho28 | (simp only [Int.reduceToNat] at ho28; rw [← Ny118.out] at ho28)); have n_ := y6 (Kd.Bu (zR HO_5.out) (Kd.Bs ho28) hb) (Kd.Bk (Kd.Bt ho28 (Kd.Cx (zR HO_5.out))) (Di (w := w) (g := g) (row := none) (zK))) (zb BK101.out hb) (Af.below (zI) hb) (Av.trans (zK) (Av.of_below hb g none) (.inl rfl)) (Ab (zB) hb); clear HO_5 BK101 HI0 HK HB; obtain ⟨HO_5, HO120, BK101, HI0, HK, HB⟩ := n_; clear hb ho28; obtain ⟨Ao29, co29, eo29⟩ := Kd.Bb HO120.out; subst eo29) | ((with_reducible refine Ay (N := 7) rfl ?_); (try (refine Ed (by rfl) ?_; dsimp only)); refine Be zr (N := 7) zr (cs := #[.slice none 0 0]) (t := 26) zg ?_; intro gb121 hg w30 hbox hb; have n_ := y13 (Kd.Ap (zR HO_5.out) hb) (Kd.Ap (zR HO120.out) hb) (zb BK101.out hb) (Af.below (zI) hb) (Av.trans (zK) (Av.of_below hb g none) (.inl rfl)) (Ab (zB) hb) (hbox) ((by rw [hg]; exact (Di (w := w) (g := g) (row := none) (zK)) : w.heap.size ≤ gb121)) ((Nat.le_trans HW0.out (by rw [hg]; exact (Di (w := w) (g := g) (row := none) (zK)) : w.heap.size ≤ gb121) : w0.heap.size ≤ gb121)) ((zL hg BK101.out : gb101 ≠ gb121)) ((zM hg BK101.out : gb121 ≠ gb101)) ((by rw [hg]; exact Nat.ne_of_lt (Af.lt (show Af w0 _ g s0_0 t114 t115 from zI)) : g ≠ gb121)) ((by rw [hg]; exact Nat.ne_of_gt (Af.lt (show Af w0 _ g s0_0 t114 t115 from zI)) : gb121 ≠ g)); clear HO_5 HO120 BK101 HI0 HK HB; obtain ⟨HO_5, HO120, BK101, HI0, HK, HB, BK121, GW121, GE121, NB101_121, NB121_101, NB0_121, NB121_0⟩ := n_; clear hb hbox hg; have hnb31 := NB121_101.out; have hnc31 := NB101_121.out; have hnb32 := NB121_0.out; have hnc32 := NB0_121.out; obtain ⟨hcz33_0, hfz33_0⟩ := zw BK121.out))
   go_loopg [8] kj11 (fun kq v8 w' => ∃ (x8_3 : Int) (x1001_3 : Int) (x1002_3 : Int) (x122000_3 : List Int) (u122000 : Value), v8 = .int .i64 x8_3 ∧ Aa (Ah.l1 kq (wrap64 (1 + t108)) x5_1 x8_3 s0_0 x1001_3 x1002_3 x122000_3 = some (r1, r2, r3, r4)) ∧ Aa (kq ≤ kj11) ∧ Aa (Kd.R (Kd.int .i64) 2 w' w.heap.size (fun k_ => some k_ ≠ (u122000 : Value).ownBlock) v112 x5_1) ∧ Aa (Kd.R (Kd.int .i64) 2 w' w.heap.size (fun k_ => some k_ ≠ (v112 : Value).ownBlock) u122000 x122000_3) ∧ Aa (w'.heap[gb101]? = some (.cells #[(.slice none 0 0)] 26 (0, 0))) ∧ Aa (w'.heap[gb121]? = some (.cells #[u122000] 26 (0, 0))) ∧ Aa (Af w0 w' g s0_0 x1001_3 x1002_3) ∧ Aa (Av w w' g none) ∧ Aa (Below w0.heap.size w0 w'))
   case atStart => exact ⟨(0), (t114), (t115), (y118), (.slice Ao29 y118.length co29), zF, H', ⟨Nat.le_refl _⟩, ⟨by refine zR ?_; exact Kd.Ai (Kd.Dv (p := ⟨gb121, 0, none⟩) (Kd.Cj HO_5.out BK121.out (by decide)) (fun _ hk => hk.2) (.slice Ao29 y118.length co29)) (fun _ hk => hk.1.2)⟩, ⟨by refine zR ?_; exact Kd.Ai (Kd.Dv (p := ⟨gb121, 0, none⟩) (Kd.Cj HO120.out BK121.out (by decide)) (fun _ hk => hk.2) (.slice Ao29 y118.length co29)) (fun _ hk => hk.1.2)⟩, ⟨by refine zG ?_; refine Ce ?_ NB101_121.out _; refine zG ?_; exact BK101.out⟩, ⟨by (with_reducible repeat (first | refine Am ?_ _ | refine Ag ?_ | refine Ak ?_ _)); refine Cl (cs := #[.slice none 0 0]) ?_ 0 _ rfl; (with_reducible repeat (first | refine Am ?_ _ | refine Ag ?_ | refine Ak ?_ _)); exact BK121.out⟩, ⟨zI⟩, ⟨zK⟩, ⟨zB⟩⟩
   clear H'
   try clear c15
   try clear hcz33_0
   try clear hfz33_0
   obtain ⟨x8_3, x1001_3, x1002_3, x122000_3, u122000, rfl, HA, HK3, HO_5, HO_122000, BK101, BK121, HI0, HK, HB⟩ := hrel
   cases gk with
   | zero => exact absurd HA.out (by simp [Ah.l1])
   | succ k3 =>
    have H := HA.out
    clear HA
    simp only [Ah.l1] at H
    by_cases c34 : x8_3 < (wrap64 (1 + t108))
    case neg =>
     rw [if_neg c34] at H
     have c34b0 := decide_eq_false c34
     clear c34
     simp only [Option.some.injEq, Prod.mk.injEq] at H
     obtain ⟨rfl, rfl, rfl, rfl⟩ := H
     have hnb64 := NB121_101.out
     have hnc64 := NB101_121.out
     have hnb65 := NB121_0.out
     have hnc65 := NB0_121.out
     obtain ⟨hcz66_0, hfz66_0⟩ := zw BK121.out
     obtain ⟨Ao67, co67, eo67⟩ := Kd.Bb HO_122000.out
     subst eo67
     have hnb68 := NB101_0.out
     have hnc68 := NB0_101.out
     obtain ⟨hcz69_0, hfz69_0⟩ := zw BK101.out
     go_wp2
     refine bodyPost_ret (Fw rfl _ _ gb101 26 #[.slice Ao67 x122000_3.length co67] (0, 0) _ rfl (by (with_reducible repeat (first | refine Am ?_ _ | refine Ag ?_ | refine Ak ?_ _)); refine Cl (cs := #[.slice none 0 0]) ?_ 0 _ rfl; (with_reducible repeat (first | refine Am ?_ _ | refine Ag ?_ | refine Ak ?_ _)); exact BK101.out) Tryz.underlying26 rfl zk) rfl ?_
     exact ⟨_, _, zE, by refine zR ?_; exact Kd.Ai (Kd.Dv (p := ⟨gb101, 0, none⟩) (Kd.Cj HO_122000.out BK101.out (by decide)) (fun _ hk => hk.2) (.slice Ao67 x122000_3.length co67)) (fun _ hk => hk.1), by refine zR ?_; exact Kd.Ai (Kd.Dv (p := ⟨gb101, 0, none⟩) (Kd.Cj HO_5.out BK101.out (by decide)) (fun _ hk => hk.2) (.slice Ao67 x122000_3.length co67)) (fun _ hk => hk.1), zI, zB, zK⟩
    rw [if_pos c34] at H
    have c34b0 := decide_eq_true c34
    clear c34
    obtain ⟨t122, A35, H⟩ := zO H
    try dsimp only at H
    have HC36 := Aa.mk H
    clear H
    obtain ⟨Ao37, co37, eo37⟩ := Kd.Bb HO_5.out
    subst eo37
    go_upto_if 49 with (first | (refine gK 59 ?_; refine gL 47 Tryz.func59 #[.slice Ao37 x5_1.length co37, .int .i64 x8_3] ?_; (with_reducible refine (Bn.calls k3 _ _ x5_1 x8_3 t122 _ ?side1 ?side2 A35.out).mono ?_); (case side1 => exact zC (Kd.Ae HO_5.out).2.2); (case side2 => exact (Kd.Ae HO_5.out).2.1); rintro e w38 ⟨rfl, hb⟩; refine ⟨_, rfl, ?_⟩; have n_ := y7 (Kd.Ap (zR HO_5.out) hb) (Kd.Ap (zR HO_122000.out) hb) (zb BK101.out hb) (zb BK121.out hb) (Af.below (zI) hb) (Av.trans (zK) (Av.of_below hb g none) (.inl rfl)) (Ab (zB) hb); clear HO_5 HO_122000 BK101 BK121 HI0 HK HB; obtain ⟨HO_5, HO_122000, BK101, BK121, HI0, HK, HB⟩ := n_; (try clear hb)))
    (try simp only [Act.put, List.setIfInBounds_toArray, List.set_cons_zero, List.set_cons_succ])
    go_cut [9] (fun v9 wc => ∃ (kq : Nat) (x9_35 : Int), v9 = .int .i64 x9_35 ∧ Aa (Ah.j3 kq (wrap64 (1 + t108)) x5_1 x8_3 x9_35 s0_0 x1001_3 x1002_3 x122000_3 = some (r1, r2, r3, r4)) ∧ Aa (kq ≤ k3) ∧ Aa (Kd.R (Kd.int .i64) 2 wc w.heap.size (fun k_ => some k_ ≠ (u122000 : Value).ownBlock) (.slice Ao37 x5_1.length co37) x5_1) ∧ Aa (Kd.R (Kd.int .i64) 2 wc w.heap.size (fun k_ => some k_ ≠ ((.slice Ao37 x5_1.length co37) : Value).ownBlock) u122000 x122000_3) ∧ Aa (wc.heap[gb101]? = some (.cells #[(.slice none 0 0)] 26 (0, 0))) ∧ Aa (wc.heap[gb121]? = some (.cells #[u122000] 26 (0, 0))) ∧ Aa (Af w0 wc g s0_0 x1001_3 x1002_3) ∧ Aa (Av w wc g none) ∧ Aa (Below w0.heap.size w0 wc))
    case first =>
     have H := HC36.out
     clear HC36
     by_cases c39 : t122 = 0
     ·
      rw [if_pos c39] at H
      have c39b0 : (t122 == 0) = true := beq_iff_eq.mpr c39
      have c39b1 : (t122 != 0) = false := bne_eq_false_iff_eq.mpr c39
      clear c39
      (first | rw [c39b0] | (simp only [Ec, En]; rw [c39b0]) | skip)
      have H' := Aa.mk H
      clear H
      go_wp2
      go_meet
      case rel => exact ⟨_, (40), zF, H', ⟨by have := HK1.out; have := HJ11.out; have := HK3.out; first | omega | exact Nat.le_refl _⟩, ⟨zR HO_5.out⟩, ⟨zR HO_122000.out⟩, ⟨zG BK101.out⟩, ⟨zG BK121.out⟩, ⟨zI⟩, ⟨zK⟩, ⟨zB⟩⟩
     rw [if_neg c39] at H
     have c39b0 : (t122 == 0) = false := beq_eq_false_iff_ne.mpr c39
     have c39b1 : (t122 != 0) = true := bne_iff_ne.mpr c39
     (first | rw [c39b0] | (simp only [Ec, En]; rw [c39b0]) | skip)
     have H' := Aa.mk H
     clear H
     go_wp2
     go_meet
     case rel => exact ⟨_, (t122), zF, H', ⟨by have := HK1.out; have := HJ11.out; have := HK3.out; first | omega | exact Nat.le_refl _⟩, ⟨zR HO_5.out⟩, ⟨zR HO_122000.out⟩, ⟨zG BK101.out⟩, ⟨zG BK121.out⟩, ⟨zI⟩, ⟨zK⟩, ⟨zB⟩⟩
    clear HC36
    try clear c15
    try clear c34
    try clear c34b0
    try clear hcz33_0
    try clear hfz33_0
    obtain ⟨kq, x9_35, rfl, HA, HJ35, HO_5, HO_122000, BK101, BK121, HI0, HK, HB⟩ := hcut
    cases kq with
    | zero => exact absurd HA.out (by simp [Ah.j3])
    | succ kj35 =>
     have H := HA.out
     clear HA
     simp only [Ah.j3] at H
     obtain ⟨⟨t123, t124, t125⟩, A40, H⟩ := zO H
     try dsimp only at H
     by_cases c41 : t123 = 0
     case neg =>
      rw [if_neg c41] at H
      have c41b0 : (t123 == 0) = false := beq_eq_false_iff_ne.mpr c41
      have c41b1 : (t123 != 0) = true := bne_iff_ne.mpr c41
      obtain ⟨ji54, hji54⟩ : ∃ j_ : Int, (mn x9_35 40) = j_ := ⟨_, rfl⟩
      replace H : (if x122000_3.length < 17592186044416 then (Ah.l1 kj35 (wrap64 (1 + t108)) x5_1 (wrap64 (x8_3 + 1)) s0_0 t124 t125 (x122000_3 ++ [mx (ji54) 1])) else (none)) = some (r1, r2, r3, r4) := by first | (rw [hji54] at H; exact H) | (simp only [hji54] at H ⊢; exact H)
      (try rw [hji54] at A40)
      have hji54_ : (if 40 < x9_35 then 40 else x9_35) = ji54 := hji54
      obtain ⟨ji55, hji55⟩ : ∃ j_ : Int, (mx (ji54) 1) = j_ := ⟨_, rfl⟩
      replace H : (if x122000_3.length < 17592186044416 then (Ah.l1 kj35 (wrap64 (1 + t108)) x5_1 (wrap64 (x8_3 + 1)) s0_0 t124 t125 (x122000_3 ++ [ji55])) else (none)) = some (r1, r2, r3, r4) := by first | (rw [hji55] at H; exact H) | (simp only [hji55] at H ⊢; exact H)
      (try rw [hji55] at A40)
      have hji55_ : (if (ji54) < 1 then 1 else (ji54)) = ji55 := hji55
      by_cases c56 : x122000_3.length < 17592186044416
      case neg => rw [if_neg c56] at H; exact absurd H (by simp)
      rw [if_pos c56] at H
      have LMc56 := Aa.mk c56
      clear c56
      obtain ⟨y132, hy132⟩ : ∃ y_ : List Int, y_ = (x122000_3 ++ [ji55]) := ⟨_, rfl⟩
      replace H : (Ah.l1 kj35 (wrap64 (1 + t108)) x5_1 (wrap64 (x8_3 + 1)) s0_0 t124 t125 y132) = some (r1, r2, r3, r4) := zH hy132
      have Ny132 := Aa.mk hy132
      clear hy132
      have H' := Aa.mk H
      clear H
      go_wp2_with (first | (refine gK 29 ?_; refine gL 51 Tryz.func29 #[.pointer (some ⟨g, 0, none⟩), .int .i64 4] ?_; (with_reducible refine (Bf.calls g s0_0 x1001_3 x1002_3 4 t123 t124 t125 w0 _ ?side1 ?side2 A40.out).mono ?_); (case side1 => exact zI); (case side2 => exact zB); rintro e w57 ⟨rfl, hi, hb, hk⟩; refine ⟨_, rfl, ?_⟩; have n_ := y7 (Kd.Ai (Kd.Cz (Af.apart (show Af w0 _ g s0_0 x1001_3 x1002_3 from zI) (zR HO_5.out) (by decide)) hk (fun _ h => h.2)) (fun _ h => h.1)) (Kd.Ai (Kd.Cz (Af.apart (show Af w0 _ g s0_0 x1001_3 x1002_3 from zI) (zR HO_122000.out) (by decide)) hk (fun _ h => h.2)) (fun _ h => h.1)) (zW BK101.out hk NB101_0.out) (zW BK121.out hk NB121_0.out) (Av.trans (zK) hk (.inl rfl)) (hb) (hi); clear HO_5 HO_122000 BK101 BK121 HK HB HI0; obtain ⟨HO_5, HO_122000, BK101, BK121, HK, HB, HI0⟩ := n_; (try clear hi hb hk); have hnb58 := NB121_101.out; have hnc58 := NB101_121.out; have hnb59 := NB121_0.out; have hnc59 := NB0_121.out; obtain ⟨hcz60_0, hfz60_0⟩ := zw BK121.out) | ((with_reducible refine Dp (b := .append) (xs := #[.tmp 59, .tmp 63]) rfl ?_); (try (refine Ed (by rfl) ?_; dsimp only)); at_builtin; refine Kd.Gk (Kd.int .i64) w.heap.size rfl (.tmp 59) (.tmp 63) 24 2 (.int .i64 0) 8 rfl Tryz.underlying24 Gb rfl (by decide) (by omega) u122000 x122000_3 ji55 [.int .i64 ji55] (fun k_ => some k_ ≠ (.slice Ao37 x5_1.length co37 : Value).ownBlock) (fun _ => False) rfl rfl ?aP (fun _ hk => hk.elim) ?aF ?aO (Below.refl _ _) ?aS ?aL ?_; (case aP => exact rfl); (case aF => exact (fun k_ hk => Kd.fresh' (Kd.Cx (zR HO_5.out)) k_ hk)); (case aO => exact (zR HO_122000.out)); (case aS => exact (Di (w := w) (g := g) (row := none) (zK))); (case aL => have := LMc56.out; omega); intro v133 w61 ho hb hg hat; rw [← Ny132.out] at ho; have n_ := y7 (Kd.Cp (ok := (fun _ => True)) (by refine zR ?_; exact Kd.Ai HO_5.out (fun _ hk => ⟨trivial, hk⟩)) hg hat) (Cm (g := gb101) (o := .cells #[.slice none 0 0] 26 (0, 0)) (zG BK101.out) hg (Kd.Em HO_122000.out BK101.out (by decide))) (Cm (g := gb121) (o := .cells #[u122000] 26 (0, 0)) (zG BK121.out) hg (Kd.Em HO_122000.out BK121.out (by decide))) (Af.grown (zI) hg (Af.Gd HI0.out HO_122000.out (by decide))) (Lf (zB) HL.out hb) (Av.trans (zK) (Av.of_grown hg g) (Kd.Pb HO_122000.out)) (ho); clear HO_5 BK101 BK121 HI0 HB HK HO_122000; obtain ⟨HO_5, BK101, BK121, HI0, HB, HK, HO134⟩ := n_; clear ho hb hg hat; obtain ⟨Ao62, co62, eo62⟩ := Kd.Bb HO134.out; subst eo62; obtain ⟨hcz63_0, hfz63_0⟩ := zw BK121.out))
      go_roundg kj35
      case measure => have := HK1.out; have := HJ11.out; have := HK3.out; have := HJ35.out; omega
      case rel => exact ⟨(wrap64 (x8_3 + 1)), (t124), (t125), (y132), (.slice Ao62 y132.length co62), zF, H', ⟨by have := HK1.out; have := HJ11.out; have := HK3.out; have := HJ35.out; omega⟩, ⟨by refine zR ?_; exact Kd.Ai (Kd.Dv (p := ⟨gb121, 0, none⟩) (Kd.Cj HO_5.out BK121.out (by decide)) (fun _ hk => hk.2) (.slice Ao62 y132.length co62)) (fun _ hk => hk.1.2)⟩, ⟨by refine zR ?_; exact Kd.Ai (Kd.Dv (p := ⟨gb121, 0, none⟩) (Kd.Cj HO134.out BK121.out (by decide)) (fun _ hk => hk.2) (.slice Ao62 y132.length co62)) (fun _ hk => hk.1)⟩, ⟨by refine zG ?_; refine Ce ?_ NB101_121.out _; refine zG ?_; exact BK101.out⟩, ⟨by (with_reducible repeat (first | refine Am ?_ _ | refine Ag ?_ | refine Ak ?_ _)); refine Cl (cs := #[u122000]) ?_ 0 _ rfl; (with_reducible repeat (first | refine Am ?_ _ | refine Ag ?_ | refine Ak ?_ _)); exact BK121.out⟩, ⟨zI⟩, ⟨zK⟩, ⟨zB⟩⟩
     rw [if_pos c41] at H
     have c41b0 : (t123 == 0) = true := beq_iff_eq.mpr c41
     have c41b1 : (t123 != 0) = false := bne_eq_false_iff_eq.mpr c41
     clear c41
     obtain ⟨⟨t126, t127, t128⟩, A42, H⟩ := zO H
     try dsimp only at H
     obtain ⟨ji43, hji43⟩ : ∃ j_ : Int, (mn (wrap64 ((wrap64 (x9_35 + t126)) - 1)) 40) = j_ := ⟨_, rfl⟩
     replace H : (if x122000_3.length < 17592186044416 then (Ah.l1 kj35 (wrap64 (1 + t108)) x5_1 (wrap64 (x8_3 + 1)) s0_0 t127 t128 (x122000_3 ++ [mx (ji43) 1])) else (none)) = some (r1, r2, r3, r4) := by first | (rw [hji43] at H; exact H) | (simp only [hji43] at H ⊢; exact H)
     (try rw [hji43] at A40)
     (try rw [hji43] at A42)
     have hji43_ : (if 40 < (wrap64 ((wrap64 (x9_35 + t126)) - 1)) then 40 else (wrap64 ((wrap64 (x9_35 + t126)) - 1))) = ji43 := hji43
     obtain ⟨ji44, hji44⟩ : ∃ j_ : Int, (mx (ji43) 1) = j_ := ⟨_, rfl⟩
     replace H : (if x122000_3.length < 17592186044416 then (Ah.l1 kj35 (wrap64 (1 + t108)) x5_1 (wrap64 (x8_3 + 1)) s0_0 t127 t128 (x122000_3 ++ [ji44])) else (none)) = some (r1, r2, r3, r4) := by first | (rw [hji44] at H; exact H) | (simp only [hji44] at H ⊢; exact H)
     (try rw [hji44] at A40)
     (try rw [hji44] at A42)
     have hji44_ : (if (ji43) < 1 then 1 else (ji43)) = ji44 := hji44
     by_cases c45 : x122000_3.length < 17592186044416
     case neg => rw [if_neg c45] at H; exact absurd H (by simp)
     rw [if_pos c45] at H
     have LMc45 := Aa.mk c45
     clear c45
     obtain ⟨y129, hy129⟩ : ∃ y_ : List Int, y_ = (x122000_3 ++ [ji44]) := ⟨_, rfl⟩
     replace H : (Ah.l1 kj35 (wrap64 (1 + t108)) x5_1 (wrap64 (x8_3 + 1)) s0_0 t127 t128 y129) = some (r1, r2, r3, r4) := zH hy129
     have Ny129 := Aa.mk hy129
     clear hy129
     have H' := Aa.mk H
     clear H
     go_wp2_with (first | (refine gK 29 ?_; refine gL 51 Tryz.func29 #[.pointer (some ⟨g, 0, none⟩), .int .i64 4] ?_; (with_reducible refine (Bf.calls g s0_0 x1001_3 x1002_3 4 t123 t124 t125 w0 _ ?side1 ?side2 A40.out).mono ?_); (case side1 => exact zI); (case side2 => exact zB); rintro e w46 ⟨rfl, hi, hb, hk⟩; refine ⟨_, rfl, ?_⟩; have n_ := y7 (Kd.Ai (Kd.Cz (Af.apart (show Af w0 _ g s0_0 x1001_3 x1002_3 from zI) (zR HO_5.out) (by decide)) hk (fun _ h => h.2)) (fun _ h => h.1)) (Kd.Ai (Kd.Cz (Af.apart (show Af w0 _ g s0_0 x1001_3 x1002_3 from zI) (zR HO_122000.out) (by decide)) hk (fun _ h => h.2)) (fun _ h => h.1)) (zW BK101.out hk NB101_0.out) (zW BK121.out hk NB121_0.out) (Av.trans (zK) hk (.inl rfl)) (hb) (hi); clear HO_5 HO_122000 BK101 BK121 HK HB HI0; obtain ⟨HO_5, HO_122000, BK101, BK121, HK, HB, HI0⟩ := n_; (try clear hi hb hk)) | (refine gK 29 ?_; refine gL 55 Tryz.func29 #[.pointer (some ⟨g, 0, none⟩), .int .i64 4] ?_; (with_reducible refine (Bf.calls g s0_0 t124 t125 4 t126 t127 t128 w0 _ ?side1 ?side2 A42.out).mono ?_); (case side1 => exact zI); (case side2 => exact zB); rintro e w47 ⟨rfl, hi, hb, hk⟩; refine ⟨_, rfl, ?_⟩; have n_ := y7 (Kd.Ai (Kd.Cz (Af.apart (show Af w0 _ g s0_0 t124 t125 from zI) (zR HO_5.out) (by decide)) hk (fun _ h => h.2)) (fun _ h => h.1)) (Kd.Ai (Kd.Cz (Af.apart (show Af w0 _ g s0_0 t124 t125 from zI) (zR HO_122000.out) (by decide)) hk (fun _ h => h.2)) (fun _ h => h.1)) (zW BK101.out hk NB101_0.out) (zW BK121.out hk NB121_0.out) (Av.trans (zK) hk (.inl rfl)) (hb) (hi); clear HO_5 HO_122000 BK101 BK121 HK HB HI0; obtain ⟨HO_5, HO_122000, BK101, BK121, HK, HB, HI0⟩ := n_; (try clear hi hb hk); have hnb48 := NB121_101.out; have hnc48 := NB101_121.out; have hnb49 := NB121_0.out; have hnc49 := NB0_121.out; obtain ⟨hcz50_0, hfz50_0⟩ := zw BK121.out) | ((with_reducible refine Dp (b := .append) (xs := #[.tmp 59, .tmp 63]) rfl ?_); (try (refine Ed (by rfl) ?_; dsimp only)); at_builtin; refine Kd.Gk (Kd.int .i64) w.heap.size rfl (.tmp 59) (.tmp 63) 24 2 (.int .i64 0) 8 rfl Tryz.underlying24 Gb rfl (by decide) (by omega) u122000 x122000_3 ji44 [.int .i64 ji44] (fun k_ => some k_ ≠ (.slice Ao37 x5_1.length co37 : Value).ownBlock) (fun _ => False) rfl rfl ?aP (fun _ hk => hk.elim) ?aF ?aO (Below.refl _ _) ?aS ?aL ?_; (case aP => exact rfl); (case aF => exact (fun k_ hk => Kd.fresh' (Kd.Cx (zR HO_5.out)) k_ hk)); (case aO => exact (zR HO_122000.out)); (case aS => exact (Di (w := w) (g := g) (row := none) (zK))); (case aL => have := LMc45.out; omega); intro v130 w51 ho hb hg hat; rw [← Ny129.out] at ho; have n_ := y7 (Kd.Cp (ok := (fun _ => True)) (by refine zR ?_; exact Kd.Ai HO_5.out (fun _ hk => ⟨trivial, hk⟩)) hg hat) (Cm (g := gb101) (o := .cells #[.slice none 0 0] 26 (0, 0)) (zG BK101.out) hg (Kd.Em HO_122000.out BK101.out (by decide))) (Cm (g := gb121) (o := .cells #[u122000] 26 (0, 0)) (zG BK121.out) hg (Kd.Em HO_122000.out BK121.out (by decide))) (Af.grown (zI) hg (Af.Gd HI0.out HO_122000.out (by decide))) (Lf (zB) HL.out hb) (Av.trans (zK) (Av.of_grown hg g) (Kd.Pb HO_122000.out)) (ho); clear HO_5 BK101 BK121 HI0 HB HK HO_122000; obtain ⟨HO_5, BK101, BK121, HI0, HB, HK, HO131⟩ := n_; clear ho hb hg hat; obtain ⟨Ao52, co52, eo52⟩ := Kd.Bb HO131.out; subst eo52; obtain ⟨hcz53_0, hfz53_0⟩ := zw BK121.out))
     go_roundg kj35
     case measure => have := HK1.out; have := HJ11.out; have := HK3.out; have := HJ35.out; omega
     case rel => exact ⟨(wrap64 (x8_3 + 1)), (t127), (t128), (y129), (.slice Ao52 y129.length co52), zF, H', ⟨by have := HK1.out; have := HJ11.out; have := HK3.out; have := HJ35.out; omega⟩, ⟨by refine zR ?_; exact Kd.Ai (Kd.Dv (p := ⟨gb121, 0, none⟩) (Kd.Cj HO_5.out BK121.out (by decide)) (fun _ hk => hk.2) (.slice Ao52 y129.length co52)) (fun _ hk => hk.1.2)⟩, ⟨by refine zR ?_; exact Kd.Ai (Kd.Dv (p := ⟨gb121, 0, none⟩) (Kd.Cj HO131.out BK121.out (by decide)) (fun _ hk => hk.2) (.slice Ao52 y129.length co52)) (fun _ hk => hk.1)⟩, ⟨by refine zG ?_; refine Ce ?_ NB101_121.out _; refine zG ?_; exact BK101.out⟩, ⟨by (with_reducible repeat (first | refine Am ?_ _ | refine Ag ?_ | refine Ak ?_ _)); refine Cl (cs := #[u122000]) ?_ 0 _ rfl; (with_reducible repeat (first | refine Am ?_ _ | refine Ag ?_ | refine Ak ?_ _)); exact BK121.out⟩, ⟨zI⟩, ⟨zK⟩, ⟨zB⟩⟩
def Bx.l0 : Nat → Int → Int → List Int → Int → Int → List Int → Option (List Int × Int × Int)
 | 0, _, _, _, _, _, _ => none
 | k + 1, x1, x6, x1000, x1001, x1002, x106000 => if x6 < x1 then ((Co.f x1000 x1001 x1002 (([4, 8, 12, 40] : List Int))).bind fun bt109 => ((Bf.f x1000 bt109.2.1 bt109.2.2 bt109.1).bind fun bt112 => (if x106000.length < 17592186044416 then (Bx.l0 k x1 (wrap64 (x6 + 1)) x1000 bt112.2.1 bt112.2.2 (x106000 ++ [wrap64 (1 + bt112.1)])) else (none)))) else (some (x106000, x1001, x1002))
def Bx.f (k : Nat) (s0_0 : List Int) (s0_1 : Int) (s0_2 : Int) (a1 : Int) : Option (List Int × Int × Int) := Bx.l0 k a1 0 s0_0 s0_1 s0_2 (([] : List Int))
theorem Bx.mono_l : ∀ k, (∀ y0 y1 y2 y3 y4 y5, LeO (Bx.l0 k y0 y1 y2 y3 y4 y5) (Bx.l0 (k + 1) y0 y1 y2 y3 y4 y5))
 | 0 => fun _ _ _ _ _ _ r h => by simp [Bx.l0] at h
 | k + 1 => by
  have ih0 := Bx.mono_l k
  ·
   intro y0 y1 y2 y3 y4 y5
   unfold Bx.l0
   repeat' first | (with_reducible first | exact ih0 _ _ _ _ _ _ | exact LeO.refl _ | exact LeO.none _ | refine LeO.ite ?_ ?_ | refine LeO.bind ?_ (fun _ => ?_)) | exact ih0 _ _ _ _ _ _ | exact LeO.none _ | refine LeO.ite ?_ ?_ | refine LeO.bind ?_ (fun _ => ?_)
theorem Bx.mono : ∀ a0 a1 a2 a3 k, LeO (Bx.f k a0 a1 a2 a3) (Bx.f (k + 1) a0 a1 a2 a3) := by
 intro a0 a1 a2 a3 k
 have ih0 := Bx.mono_l k
 unfold Bx.f
 repeat' first | (with_reducible first | exact ih0 _ _ _ _ _ _ | exact LeO.refl _ | exact LeO.none _ | refine LeO.ite ?_ ?_ | refine LeO.bind ?_ (fun _ => ?_)) | exact ih0 _ _ _ _ _ _ | exact LeO.none _ | refine LeO.ite ?_ ?_ | refine LeO.bind ?_ (fun _ => ?_)
def Bx.T5 : Bool × List (List Nat × List Nat) := (true, [([], []), ([0], [0]), ([], []), ([], []), ([], []), ([3, 4], [3, 4]), ([2, 5, 5], [2, 5]), ([6], [6]), ([7], [7]), ([1, 8, 6], [1, 8]), ([0, 1, 2, 3, 4, 5, 6, 7, 8, 9], []), ([10, 9, 9, 0, 1, 2, 3, 4, 5, 6, 7, 8, 9], [9, 10])])
def Bx.B5 : List Nat := [0, 1, 0, 0, 0, 24, 60, 124, 252, 511, 1023, 2047]
theorem Bx.tab5 : rtab .any (Lz Tryz.f70 5) = Bx.T5 := by kernel_rfl
theorem Bx.bits5 : Gh Bx.T5.2 Bx.B5 = true := by kernel_rfl
end Go.Proofs.YtliepcfgcglcmaaGreat.P
end
