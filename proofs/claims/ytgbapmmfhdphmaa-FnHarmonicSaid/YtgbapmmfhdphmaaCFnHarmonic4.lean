/- Lessened gaps are at most the gaps, harmonic turns serve their tasks, and turns by powers and by one number serve. -/
import Derived.Test.YtgbapmmfhdphmaaCFnHarmonic3
section
namespace Go.Proofs.Ytgbapmmfhdphmaa.P
open Go.RowKit Go.Proofs.YtgbapmmfhdphmaaW.PrintWords Go.Proofs.YtgbapmmfhdphmaaW.PrintLast Go.Proofs.YtgbapmmfhdphmaaW.PrintMore
attribute [local go_sem] max2_int min2_int max_two min_two max_three min_three max_four min_four   -- for this text's walks alone
set_option linter.unusedVariables false
set_option linter.unusedSimpArgs false
set_option maxHeartbeats 8000000 in
set_option maxRecDepth 100000 in
theorem impl_Tasks_isThin.calls (k : Nat) (A0_0 : Option Addr) (c0_0 : Nat) (l0_0 : List Int) (r : Bool) (w : World) (hr0_0 : Kd.C (Kd.int .i64) w A0_0 l0_0.length l0_0) (hc0_0 : l0_0.length ≤ c0_0) (h : impl_Tasks_isThin.f k l0_0 = some r) :
    Calls Try.prog 27 #[.agg #[.slice A0_0 l0_0.length c0_0]] w fun e w' => e = .returned (.bool r) ∧ Below w.heap.size w w' := by
 have hu26 := Try.underlying26
 have HR0_0 := Aside0.mk hr0_0
 have HC0_0 := Aside0.mk hc0_0
 clear hr0_0 hc0_0
 have HB := Aside0.mk (Below.refl w.heap.size w)
 have H : ((impl_Tasks_density.f k l0_0).bind fun bt102 => (some (decide (bt102.1 ≤ bt102.2)))) = some r := h
 clear h
 replace H := Option.bind_eq_some_iff.mp H
 obtain ⟨⟨t102, t103⟩, A20, H⟩ := H
 replace H : (some (decide (t102 ≤ t103))) = some r := H
 have A2 := Aside0.mk A20
 clear A20
 obtain rfl := Option.some.inj H
 go_enter Try.func27, Try.ntmps27
 go_wp2_with (first | ((with_reducible refine gate_dst (N := 1) rfl ?_); refine box_event zr (N := 1) zr (cs := #[.slice A0_0 l0_0.length c0_0]) (t := 26) zg ?_; intro gb101 hg w3 hbox hb; have n_ := y4 (below_step (zB) hb) (hbox) ((zS hg : w.heap.size ≤ gb101)) ((zS hg : w.heap.size ≤ gb101)); clear HB; obtain ⟨HB, BK101, GW101, GE101⟩ := n_; clear hb hbox hg; have hcz4_0 := zc BK101.out; have hfz4_0 := blk_frozen BK101.out 0) | ((with_reducible refine gate_callee (f := 32) rfl ?_); refine goesL_ (some 7) rfl rfl Try.func32 zk rfl #[.agg #[.slice A0_0 l0_0.length c0_0]] rfl zA ?_; (with_reducible refine (impl_Tasks_density.calls k _ _ l0_0 t102 t103 _ ?side1 ?side2 A2.out).mono ?_); (case side1 => exact zC (Kd.C_below HR0_0.out HB.out)); (case side2 => exact HC0_0.out); rintro e w5 ⟨rfl, hb⟩; refine ⟨_, rfl, ?_⟩; have n_ := y2 (zb BK101.out hb) (below_step (zB) hb); clear BK101 HB; obtain ⟨BK101, HB⟩ := n_; (try clear hb); (try clear hb2); (try clear hk); (try clear hi)))
 go_ret
 exact ⟨zE, zB⟩
end Go.Proofs.Ytgbapmmfhdphmaa.P
end
section
namespace Go.Proofs.Ytgbapmmfhdphmaa.P
open Go.RowKit Go.Proofs.YtgbapmmfhdphmaaW.PrintWords Go.Proofs.YtgbapmmfhdphmaaW.PrintLast Go.Proofs.YtgbapmmfhdphmaaW.PrintMore
attribute [local go_sem] max2_int min2_int max_two min_two max_three min_three max_four min_four   -- for this text's walks alone
set_option linter.unusedVariables false
set_option linter.unusedSimpArgs false
def math_bits_Mul64.f (a0 : Int) (a1 : Int) : Option (Int × Int) := some (IntKind.u64.wrap ((IntKind.u64.wrap ((IntKind.u64.wrap ((a0 / 4294967296) * (a1 / 4294967296))) + ((IntKind.u64.wrap ((IntKind.u64.wrap ((a0 / 4294967296) * (Go.bits .and .u64 a1 4294967295))) + ((IntKind.u64.wrap ((Go.bits .and .u64 a0 4294967295) * (Go.bits .and .u64 a1 4294967295))) / 4294967296))) / 4294967296))) + ((IntKind.u64.wrap ((Go.bits .and .u64 (IntKind.u64.wrap ((IntKind.u64.wrap ((a0 / 4294967296) * (Go.bits .and .u64 a1 4294967295))) + ((IntKind.u64.wrap ((Go.bits .and .u64 a0 4294967295) * (Go.bits .and .u64 a1 4294967295))) / 4294967296))) 4294967295) + (IntKind.u64.wrap ((Go.bits .and .u64 a0 4294967295) * (a1 / 4294967296))))) / 4294967296)), IntKind.u64.wrap (a0 * a1))
set_option maxHeartbeats 8000000 in
set_option maxRecDepth 100000 in
theorem math_bits_Mul64.calls (a0 : Int) (a1 : Int) (r1 : Int) (r2 : Int) (w : World) (h : math_bits_Mul64.f a0 a1 = some (r1, r2)) :
    Calls Try.prog 77 #[.int .u64 a0, .int .u64 a1] w fun e w' => e = .returned (.tuple #[.int .u64 r1, .int .u64 r2]) ∧ Drawn0 w w' := by
 have H : (some (IntKind.u64.wrap ((IntKind.u64.wrap ((IntKind.u64.wrap ((a0 / 4294967296) * (a1 / 4294967296))) + ((IntKind.u64.wrap ((IntKind.u64.wrap ((a0 / 4294967296) * (Go.bits .and .u64 a1 4294967295))) + ((IntKind.u64.wrap ((Go.bits .and .u64 a0 4294967295) * (Go.bits .and .u64 a1 4294967295))) / 4294967296))) / 4294967296))) + ((IntKind.u64.wrap ((Go.bits .and .u64 (IntKind.u64.wrap ((IntKind.u64.wrap ((a0 / 4294967296) * (Go.bits .and .u64 a1 4294967295))) + ((IntKind.u64.wrap ((Go.bits .and .u64 a0 4294967295) * (Go.bits .and .u64 a1 4294967295))) / 4294967296))) 4294967295) + (IntKind.u64.wrap ((Go.bits .and .u64 a0 4294967295) * (a1 / 4294967296))))) / 4294967296)), IntKind.u64.wrap (a0 * a1))) = some (r1, r2) := h
 clear h
 simp only [Option.some.injEq, Prod.mk.injEq] at H
 obtain ⟨rfl, rfl⟩ := H
 go_enter Try.func77, Try.ntmps77
 go_wp2
 go_ret2
 exact ⟨by first | rfl | (simp; done) | (simp [*]; done), by repeat (first | exact Drawn0.refl _ | apply Drawn0.step)⟩
end Go.Proofs.Ytgbapmmfhdphmaa.P
end
section
namespace Go.Proofs.Ytgbapmmfhdphmaa.P
open Go.RowKit Go.Proofs.YtgbapmmfhdphmaaW.PrintWords Go.Proofs.YtgbapmmfhdphmaaW.PrintLast Go.Proofs.YtgbapmmfhdphmaaW.PrintMore
attribute [local go_sem] max2_int min2_int max_two min_two max_three min_three max_four min_four   -- for this text's walks alone
set_option linter.unusedVariables false
set_option linter.unusedSimpArgs false
def math_bits_Mul.f (a0 : Int) (a1 : Int) : Option (Int × Int) := (math_bits_Mul64.f a0 a1).bind fun bt101 => (some (bt101.1, bt101.2))
set_option maxHeartbeats 8000000 in
set_option maxRecDepth 100000 in
theorem math_bits_Mul.calls (a0 : Int) (a1 : Int) (r1 : Int) (r2 : Int) (w : World) (h : math_bits_Mul.f a0 a1 = some (r1, r2)) :
    Calls Try.prog 69 #[.int .u64 a0, .int .u64 a1] w fun e w' => e = .returned (.tuple #[.int .u64 r1, .int .u64 r2]) ∧ Drawn0 w w' := by
 have H : ((math_bits_Mul64.f a0 a1).bind fun bt101 => (some (bt101.1, bt101.2))) = some (r1, r2) := h
 clear h
 replace H := Option.bind_eq_some_iff.mp H
 obtain ⟨⟨t101, t102⟩, A30, H⟩ := H
 replace H : (some (t101, t102)) = some (r1, r2) := H
 have A3 := Aside0.mk A30
 clear A30
 simp only [Option.some.injEq, Prod.mk.injEq] at H
 obtain ⟨rfl, rfl⟩ := H
 go_enter Try.func69, Try.ntmps69
 go_wp2_with (first | ((with_reducible refine gate_callee (f := 77) rfl ?_); refine goesL_ (some 25) rfl rfl Try.func77 zk rfl #[.int .u64 a0, .int .u64 a1] rfl zA ?_; (with_reducible refine (math_bits_Mul64.calls a0 a1 t101 t102 _ A3.out).mono ?_); rintro e w' ⟨rfl, ⟨nd, rfl⟩⟩; refine ⟨_, rfl, ?_⟩))
 go_ret2
 exact ⟨by first | rfl | (simp; done) | (simp [*]; done), by repeat (first | exact Drawn0.refl _ | apply Drawn0.step)⟩
end Go.Proofs.Ytgbapmmfhdphmaa.P
end
section
namespace Go.Proofs.Ytgbapmmfhdphmaa.P
open Go.RowKit Go.Proofs.YtgbapmmfhdphmaaW.PrintWords Go.Proofs.YtgbapmmfhdphmaaW.PrintLast Go.Proofs.YtgbapmmfhdphmaaW.PrintMore
attribute [local go_sem] max2_int min2_int max_two min_two max_three min_three max_four min_four   -- for this text's walks alone
set_option linter.unusedVariables false
set_option linter.unusedSimpArgs false
def slices_Repeat_Sint64_int64.f (l0 : List Int) (a1 : Int) : Option (List Int) := if l0.length = 1 ∧ (0 ≤ a1 ∧ a1 < 4294967296) then some (List.replicate a1.toNat (rd l0 0)) else if (1 ≤ l0.length ∧ l0.length ≤ 1024) ∧ (1 ≤ a1 ∧ a1 ≤ 1024) then some (List.replicate a1.toNat l0).flatten else none
theorem infoR : (Try.prog.info? 2).map (fun i => (i.zero, i.size, i.bytes)) = some (some (.int .i64 0), 1, 8) := by kernel_rfl
theorem u64_small (c : Nat) (hc : c < 4294967296) : IntKind.u64.wrap (c : Int) = (c : Int) := by
  show (c : Int) % 18446744073709551616 = (c : Int)
  omega
theorem take_splice {v : Value} {cur : List Value} {j m : Nat} (h : cur.take j = List.replicate j v) (hj : j ≤ cur.length) : (splice cur j (List.replicate m v)).take (j + m) = List.replicate (j + m) v := by
  unfold splice
  rw [h, ← List.append_assoc, List.take_append_of_le_length (by simp), List.take_of_length_le (by simp), List.replicate_append_replicate]
theorem cell_take {v : Value} {cur : List Value} {j i : Nat} (h : cur.take j = List.replicate j v) (hi : i < j) : cur[i]? = some v := by
  have h2 : (cur.take j)[i]? = some v := by rw [h]; simp [hi]
  rwa [List.getElem?_take_of_lt hi] at h2
theorem mul_one_f (c : Nat) (hc : c < 4294967296) : math_bits_Mul.f 1 (c : Int) = some (0, (c : Int)) := by
  have e1 : Go.bits .and .u64 1 4294967295 = 1 := by decide
  have e2 : Go.bits .and .u64 (c : Int) 4294967295 = (c : Int) := by
    rw [show (4294967295 : Int) = ((4294967295 : Nat) : Int) from rfl, Go.bits_and_u64_nat c 4294967295 (by omega) (by omega), show (4294967295 : Nat) = 2 ^ 32 - 1 from rfl, Nat.and_two_pow_sub_one_eq_mod, Nat.mod_eq_of_lt (by omega)]
  have e3 : (c : Int) / 4294967296 = 0 := by omega
  have e4 : (1 : Int) / 4294967296 = 0 := by decide
  have e5 : IntKind.u64.wrap (c : Int) = (c : Int) := u64_small c (by omega)
  have e6 : IntKind.u64.wrap 0 = 0 := by decide
  have e7 : Go.bits .and .u64 0 4294967295 = 0 := by decide
  unfold math_bits_Mul.f math_bits_Mul64.f
  simp only [e1, e2, e3, e4, e5, e6, e7, Int.one_mul, Int.zero_mul, Int.mul_zero, Int.zero_add, Int.add_zero, Int.zero_ediv, Option.bind_some]
theorem rd_natR {l : List Int} {n : Nat} (h : n < l.length) : rd l (n : Int) = l[n] := by simp [rd, List.getD_eq_getElem?_getD, List.getElem?_eq_getElem h]
def vrep (l0 : List Int) (c : Nat) : List Value := (List.replicate c (l0.map (Value.int .i64))).flatten
theorem vrep_length (l0 : List Int) (c : Nat) : (vrep l0 c).length = c * l0.length := by simp [vrep]
theorem vrep_add (l0 : List Int) (a b : Nat) : vrep l0 (a + b) = vrep l0 a ++ vrep l0 b := by
  unfold vrep
  rw [← List.replicate_append_replicate, List.flatten_append]
theorem vrep_take (l0 : List Int) (c q m : Nat) (hq : q ≤ c) (hm : m ≤ (c - q) * l0.length) : (vrep l0 c).take (q * l0.length + m) = (vrep l0 c).take (q * l0.length) ++ (vrep l0 c).take m := by
  obtain ⟨d, rfl⟩ : ∃ d, c = q + d := ⟨c - q, by omega⟩
  rw [List.take_add]
  congr 1
  rw [show q + d - q = d by omega] at hm
  have h1 : (vrep l0 (q + d)).drop (q * l0.length) = vrep l0 d := by rw [vrep_add, List.drop_left' (vrep_length l0 q)]
  rw [h1, Nat.add_comm q d, vrep_add, List.take_append_of_le_length (by rw [vrep_length]; exact hm)]
theorem vrep_one {l0 : List Int} {c : Nat} {v : Value} (h : v ∈ vrep l0 c) : v.oneCell' = true := by
  unfold vrep at h
  obtain ⟨l, hl, hv⟩ := List.mem_flatten.1 h
  rw [(List.mem_replicate.1 hl).2] at hv
  obtain ⟨x, _, rfl⟩ := List.mem_map.1 hv
  rfl
theorem vrep_first {l0 : List Int} {c : Nat} (h : 1 ≤ c) : (vrep l0 c).take l0.length = l0.map (Value.int .i64) := by
  obtain ⟨d, rfl⟩ : ∃ d, c = 1 + d := ⟨c - 1, by omega⟩
  rw [vrep_add, List.take_append_of_le_length (by rw [vrep_length]; omega), List.take_of_length_le (by rw [vrep_length]; omega)]
  simp [vrep]
theorem take_splice2 {cur cs : List Value} {j : Nat} (hj : j ≤ cur.length) : (splice cur j cs).take (j + cs.length) = cur.take j ++ cs := by
  unfold splice
  rw [← List.append_assoc, List.take_append_of_le_length (by simp; omega), List.take_of_length_le (by simp; omega)]
theorem cell_take2 {cu vr : List Value} {j m i : Nat} {v : Value} (h : cu.take j = vr.take j) (hm : m ≤ j) (hi : (vr.take m)[i]? = some v) : cu[i]? = some v := by
  have h1 := (List.getElem?_eq_some_iff.1 hi).1
  rw [List.length_take] at h1
  rw [List.getElem?_take_of_lt (by omega)] at hi
  have h2 : (cu.take j)[i]? = (vr.take j)[i]? := by rw [h]
  rw [List.getElem?_take_of_lt (by omega), List.getElem?_take_of_lt (by omega), hi] at h2
  exact h2
theorem mul_small_f (a c : Nat) (ha : a < 65536) (hc : c < 65536) : math_bits_Mul.f (a : Int) (c : Int) = some (0, ((a * c : Nat) : Int)) := by
  have hac : a * c < 4294967296 := Nat.lt_of_lt_of_le (Nat.mul_lt_mul'' ha hc) (by decide)
  have ea : Go.bits .and .u64 (a : Int) 4294967295 = (a : Int) := by
    rw [show (4294967295 : Int) = ((4294967295 : Nat) : Int) from rfl, Go.bits_and_u64_nat a 4294967295 (by omega) (by omega), show (4294967295 : Nat) = 2 ^ 32 - 1 from rfl, Nat.and_two_pow_sub_one_eq_mod, Nat.mod_eq_of_lt (by omega)]
  have ec : Go.bits .and .u64 (c : Int) 4294967295 = (c : Int) := by
    rw [show (4294967295 : Int) = ((4294967295 : Nat) : Int) from rfl, Go.bits_and_u64_nat c 4294967295 (by omega) (by omega), show (4294967295 : Nat) = 2 ^ 32 - 1 from rfl, Nat.and_two_pow_sub_one_eq_mod, Nat.mod_eq_of_lt (by omega)]
  have e3 : (c : Int) / 4294967296 = 0 := by omega
  have e4 : (a : Int) / 4294967296 = 0 := by omega
  have e5 : IntKind.u64.wrap ((a * c : Nat) : Int) = ((a * c : Nat) : Int) := u64_small _ (by omega)
  have e8 : ((a * c : Nat) : Int) / 4294967296 = 0 := by omega
  have e6 : IntKind.u64.wrap 0 = 0 := by decide
  have e7 : Go.bits .and .u64 0 4294967295 = 0 := by decide
  unfold math_bits_Mul.f math_bits_Mul64.f
  simp only [ea, ec, e3, e4, ← Int.natCast_mul, e5, e8, e6, e7, Int.zero_mul, Int.mul_zero, Int.zero_add, Int.add_zero, Int.zero_ediv, Option.bind_some]
set_option maxHeartbeats 8000000 in
set_option maxRecDepth 100000 in
theorem fvRep_many (A0 : Option Addr) (c0 : Nat) (l0 : List Int) (c : Nat) (w : World) (hr0 : Kd.C (Kd.int .i64) w A0 l0.length l0) (hc0 : l0.length ≤ c0) (hl : 1 ≤ l0.length ∧ l0.length ≤ 1024) (hcc : 1 ≤ c ∧ c ≤ 1024) :
    Calls Try.prog 52 #[.slice A0 l0.length c0, .int .i64 (c : Int)] w fun e w' => ∃ v0_ : Value, e = .returned (v0_) ∧ Kd.R (Kd.int .i64) 2 w' w.heap.size (fun _ => True) v0_ (List.replicate c l0).flatten ∧ Below w.heap.size w w' := by
    obtain ⟨ad, e1, _⟩ := Kd.at_int hr0 0 (by omega) (by omega)
    cases e1
    have hx0 : ∀ j : Nat, j < l0.length → w.cell? (ad.add j) = some (.int .i64 (rd l0 (j : Int))) := fun j hj => by
      obtain ⟨ad2, e2, h2⟩ := Kd.at_int hr0 (j : Int) (by omega) (by omega)
      cases e2
      rwa [Int.toNat_natCast] at h2
    obtain ⟨n, hn⟩ : ∃ n, n = c * l0.length := ⟨_, rfl⟩
    have hlen : (List.replicate c l0).flatten.length = n := by rw [hn]; simp
    have hvl : (vrep l0 c).length = n := by rw [vrep_length, hn]
    have h1n : l0.length ≤ n := by rw [hn]; exact Nat.le_mul_of_pos_left _ (by omega)
    have hNs : n < 4294967296 := by rw [hn]; exact Nat.lt_of_le_of_lt (Nat.mul_le_mul hcc.2 hl.2) (by decide)
    have hmul : math_bits_Mul.f (l0.length : Int) (c : Int) = some (0, (n : Int)) := by rw [mul_small_f l0.length c (by omega) (by omega), hn, Nat.mul_comm]
    have HN := Aside0.mk hNs
    have HL := Aside0.mk hl
    have H1N := Aside0.mk h1n
    have HVL := Aside0.mk hvl
    have HLEN := Aside0.mk hlen
    have HNC0 := Aside0.mk hn
    have HCC := Aside0.mk hcc
    have HB := Aside0.mk (Below.refl w.heap.size w)
    have HX := Aside0.mk hx0
    have HM := Aside0.mk (fun W : World => math_bits_Mul.calls (l0.length : Int) (c : Int) _ _ W hmul)
    have k0 : IntKind.u64.wrap (l0.length : Int) = (l0.length : Int) := u64_small _ (by omega)
    have k1 : decide ((c : Int) < 0) = false := decide_eq_false (by omega)
    have k2 : IntKind.u64.wrap (c : Int) = (c : Int) := u64_small c (by omega)
    have k3 : wrap64 (n : Int) = (n : Int) := by unfold wrap64; omega
    have k4 : decide ((n : Int) > 9223372036854775807) = false := decide_eq_false (by omega)
    clear hr0 hc0 hl hcc hx0 hmul hn hlen hvl h1n hNs
    obtain ⟨i0, hi0, _, hsz0, _⟩ := info_parts infoR
    have hcutF : ∀ (W : World) (g cap j : Nat), j < n → n ≤ cap → (Instr.slice 24 (.slice (some ⟨g, 0, none⟩) n cap) (some (.int .i64 (j : Int))) none none).run Try.prog W = .ok (.slice (some ⟨g, j, none⟩) (n - j) (cap - j)) W := fun W g cap j h1 h2 => by
      have h := cut_from (P := Try.prog) 24 2 .i64 Try.underlying24 hi0 1 hsz0 (some ⟨g, 0, none⟩) n cap (j : Int) (by omega) (by omega) W
      rw [Int.toNat_natCast, if_neg (by omega)] at h
      rw [h]
      simp [Addr.add]
      exact fun e => e.symm
    have hcutT : ∀ (W : World) (g cap j : Nat), j < n → n ≤ cap → (Instr.slice 24 (.slice (some ⟨g, 0, none⟩) n cap) none (some (.int .i64 (j : Int))) none).run Try.prog W = .ok (.slice (some ⟨g, 0, none⟩) j cap) W := fun W g cap j h1 h2 => by
      have h := cut_to (P := Try.prog) 24 2 .i64 Try.underlying24 hi0 (some ⟨g, 0, none⟩) n cap (j : Int) (by omega) (by omega) h2 W
      rwa [Int.toNat_natCast] at h
    have hesz : (Try.prog.info? 2).map (·.size) = some 1 := by kernel_rfl
    have HCF := Aside0.mk hcutF
    have HCT := Aside0.mk hcutT
    clear hcutF hcutT
    have hn1 : 1 ≤ n := by have := HL.out; have := H1N.out; omega
    go_enter Try.func52, Try.ntmps52
    go_wp2_with (first
      | (go_at_call 69; refine (HM.out _).mono ?_; rintro e w' ⟨rfl, ⟨n0, rfl⟩⟩)
      | ((with_reducible refine gate_dst (N := 30) rfl ?_); go_loud (refine Kd.R_make (Kd.int .i64) (w0 := w) w.heap.size 2 rfl (N := 30) rfl 24 _ _ rfl (n : Int) (show Value.int .i64 (wrap64 (n : Int)) = Value.int .i64 (n : Int) by rw [k3]) (show Value.int .i64 (wrap64 (n : Int)) = Value.int .i64 (n : Int) by rw [k3]) Try.underlying24 (.int .i64 0) 8 infoR rfl (by decide) (by omega) 0 (ok := fun _ => True) (okp := fun _ => True) rfl (fun _ hk => hk) trivial (by omega) (by have := HN.out; omega) (pw_below_drewN (Below.refl w.heap.size w) n0) (Nat.le_refl _) ?_; intro v7 w9 ho hb hg_ hnew_; rw [Int.toNat_natCast] at ho; obtain ⟨hq, hh⟩ := Kd.own_of_R ho; rcases hh with ⟨_, hz⟩ | ⟨g, cap, cur, rfl, hbg, hcur, hnc, hcm, hsz, htk⟩; (exfalso; rw [List.length_replicate] at hz; omega); rw [List.length_replicate] at hnc ⊢; have HG := Aside0.mk hcur; have HBG := Aside0.mk hbg; have HNC := Aside0.mk hnc; have HCM := Aside0.mk hcm; have HSZ := Aside0.mk (show cur.size = cap by omega); have HB1 := Aside0.mk hb; clear ho hb hg_ hnew_ hq hbg hcur hnc hcm hsz htk))
      | ((with_reducible refine gate_builtin (b := .copy) (xs := #[.tmp 31, .tmp 32]) rfl ?_); go_loud (refine wpList_copy_splice rfl (.tmp 31) (.tmp 32) 24 24 rfl 2 Try.underlying24 hesz _ _ _ _ _ _ rfl rfl g 0 cur.toList 2 (by simpa using HG.out) (l0.map (Value.int .i64)) (show (l0.map (Value.int .i64)).length = min l0.length n by rw [List.length_map]; have := H1N.out; omega) (fun _ => ⟨rfl, ad, rfl, fun j v hj => ?aC⟩) (by rw [List.length_map]; have h5 : cur.toList.length = cur.size := Array.length_toList; have := HSZ.out; have := HNC.out; have := H1N.out; omega) (fun v hv => by obtain ⟨x, _, rfl⟩ := List.mem_map.1 hv; rfl) w.heap.size w HB1.out HBG.out ?_; (case aC => (have hi2 := (List.getElem?_eq_some_iff.1 hj).1; rw [List.length_map] at hi2; rw [List.getElem?_map, List.getElem?_eq_getElem hi2] at hj; obtain rfl := Option.some.inj hj; have hcell := HX.out j hi2; rw [rd_natR hi2] at hcell; exact pw_cell_below HB1.out hcell)); intro w10 hG hb10; have HG1 := Aside0.mk hG; have HB2 := Aside0.mk hb10; clear hG hb10)))
    go_loopg [8] (n + 1) (fun kq v8 w' => ∃ (j q : Nat) (cu : List Value), v8 = .int .i64 (j : Int) ∧ Aside0 (1 ≤ j ∧ j ≤ n ∧ n < kq + j ∧ j = q * l0.length ∧ q ≤ c) ∧ Aside0 (w'.heap[g]? = some (.cells cu.toArray 2 (0, 0))) ∧ Aside0 (cu.length = cap ∧ cu.take j = (vrep l0 c).take j) ∧ Aside0 (Below w.heap.size w w'))
    case atStart =>
      refine ⟨l0.length, 1, splice cur.toList 0 (l0.map (Value.int .i64)), rfl, ⟨by have := HL.out; have := H1N.out; have := HCC.out; omega⟩, HG1, ⟨?_, ?_⟩, HB2⟩
      · have h5 : cur.toList.length = cur.size := Array.length_toList
        rw [length_splice _ _ _ (by rw [List.length_map]; have := HSZ.out; have := HNC.out; have := H1N.out; omega), h5]; exact HSZ.out
      · have h1 := take_splice2 (cur := cur.toList) (cs := l0.map (Value.int .i64)) (j := 0) (by omega)
        rw [Nat.zero_add, List.length_map, List.take_zero, List.nil_append] at h1
        rw [h1, vrep_first HCC.out.1]
    case round =>
        clear HG1 HB2 HB1 HG HSZ
        obtain ⟨j, q, cu, rfl, HJ, HG, HU, HB1⟩ := hrel
        by_cases hj : j < n
        · obtain ⟨k1, rfl⟩ : ∃ k1, gk = k1 + 1 := ⟨gk - 1, by have := HJ.out; omega⟩
          have d1 : decide ((j : Int) < (n : Int)) = true := decide_eq_true (by omega)
          have d2 : (j < n) = True := eq_true hj
          have hF := fun W => HCF.out W g cap j hj HNC.out
          have hT := fun W => HCT.out W g cap j hj HNC.out
          have HJN := Aside0.mk hj
          have hml : ((vrep l0 c).take (min j (n - j))).length = min j (n - j) := by rw [List.length_take, HVL.out]; omega
          have HML := Aside0.mk hml
          clear hj hml
          go_wp2
          have HB3 := Aside0.mk (below_drew1 HB1.out)
          have HG3 := Aside0.mk (show wr.drew.heap[g]? = some (.cells cu.toArray 2 (0, 0)) from HG.out)
          clear HB1 HG
          refine start_ (n := 10) (S := fun w' => True) (ds := []) #[false,false,false,false,false,false,false,false,false,false] zk rfl rfl trivial (fun hHeld => ?_)
          generalize wr.drew = w3 at HB3 HG3 hHeld ⊢
          refine pure_ (i := 0) (N := some 38) (v := ?_) (a' := ?_) #[true,false,false,false,false,false,false,false,false,false] rfl rfl zk (fun _ _ _ h => h) (Or.inl ⟨by rfl, ?_⟩) ?_ ?_
          rotate_left; exact zp; rotate_left; exact zq
          refine pure_ (i := 1) (N := some 39) (v := ?_) (a' := ?_) #[true,true,false,false,false,false,false,false,false,false] rfl rfl zk (fun _ _ _ h => h) (Or.inl ⟨by rfl, ?_⟩) ?_ ?_
          rotate_left; exact zp; rotate_left; exact zq
          refine pure_ (i := 2) (N := some 40) (v := ?_) (a' := ?_) #[true,true,true,false,false,false,false,false,false,false] rfl rfl zk (fun _ _ _ h => h) (Or.inl ⟨by rfl, ?_⟩) ?_ ?_
          rotate_left; exact zp; rotate_left; exact zq
          refine pure_ (i := 3) (N := some 41) (v := ?_) (a' := ?_) #[true,true,true,true,false,false,false,false,false,false] rfl rfl zk (fun _ _ _ h => h) (Or.inl ⟨by rfl, ?_⟩) ?_ ?_
          rotate_left; exact zp; rotate_left; exact zq
          refine pure_ (i := 4) (N := some 42) (v := ?_) (a' := ?_) #[true,true,true,true,true,false,false,false,false,false] rfl rfl zk (fun _ _ _ h => h) (Or.inl ⟨by rfl, ?_⟩) ?_ ?_
          rotate_left; exact zp; rotate_left; exact zq
          refine pure_ (i := 5) (N := some 43) (v := ?_) (a' := ?_) #[true,true,true,true,true,true,false,false,false,false] rfl rfl zk (fun _ _ _ h => h) (Or.inl ⟨by rfl, ?_⟩) ?_ ?_
          rotate_left; exact zp; rotate_left; exact zq
          refine pure_ (i := 6) (N := some 44) (v := ?_) (a' := ?_) #[true,true,true,true,true,true,true,false,false,false] rfl rfl zk (fun _ _ _ h => h) (Or.inl ⟨by rfl, ?_⟩) ?_ ?_
          rotate_left; exact zp; rotate_left; exact zq
          refine one_ (i := 7) (N := some 45) #[true,true,true,true,true,true,true,true,false,false] rfl rfl zk (by decide) (fun K hK => ?_)
          refine step_copy_splice rfl (.tmp 41) (.tmp 44) 24 24 rfl 2 Try.underlying24 hesz (some ⟨g, j, none⟩) (some ⟨g, 0, none⟩) (n - j) (cap - j) j cap rfl rfl g j cu 2 HG3.out ((vrep l0 c).take (min j (n - j))) (by rw [HML.out]) (fun _ => ⟨rfl, ⟨g, 0, none⟩, rfl, fun i v hi => ?aC⟩) (by rw [HML.out]; have := HU.out.1; have := HNC.out; have := HJN.out; omega) (fun v hv => vrep_one (List.mem_of_mem_take hv)) w.heap.size w HB3.out HBG.out ?_
          case aC =>
            have h2 := blk_cell HG3.out i
            rw [List.getElem?_toArray, cell_take2 HU.out.2 (Nat.min_le_left _ _) hi] at h2
            rw [show (⟨g, 0, none⟩ : Addr).add i = ⟨g, i, none⟩ by simp [Addr.add]; omega]
            exact h2
          intro w4 hg4 hb4
          have HG4 := Aside0.mk hg4
          have HB4 := Aside0.mk hb4
          clear hg4 hb4 HG3 HB3
          refine hK.out _ _ trivial (fun hHeld => ?_)
          clear hK K
          refine norm_ (a' := ?_) ?_ ?_
          rotate_left
          · show Act.put _ (some 45) _ = _
            simp only [Act.put, List.setIfInBounds_toArray, List.set_cons_zero, List.set_cons_succ, i64_w, i32_w]
            rfl
          refine pure_ (i := 8) (N := some 46) (v := .int .i64 (((j + min j (n - j) : Nat)) : Int)) (a' := ?_) #[true,true,true,true,true,true,true,true,true,false] rfl rfl zk (fun _ _ _ h => h) (Or.inl ⟨by rfl, ?_⟩) ?_ ?_
          · intro w'
            go_simp
            first | done | (simp only [i64_w]; unfold wrap64; have := HN.out; have := HJN.out; have := HML.out; have := HVL.out; omega)
          rotate_left
          · simp only [Act.put, List.setIfInBounds_toArray, List.set_cons_zero, List.set_cons_succ, i64_w, i32_w]
            rfl
          refine pure_ (i := 9) (N := some 8) (v := ?_) (a' := ?_) #[true,true,true,true,true,true,true,true,true,true] rfl rfl zk (fun _ _ _ h => h) (Or.inl ⟨by rfl, ?_⟩) ?_ ?_
          rotate_left; exact zp; rotate_left; exact zq
          refine done_ zk ?_
          try go_wp2
          go_roundg k1
          case measure => omega
          case rel =>
            have hJ := HJ.out
            have hJN := HJN.out
            have hML := HML.out
            have hn := HNC0.out
            have hq : q < c := Nat.lt_of_mul_lt_mul_right (a := l0.length) (by omega)
            have hcq : (c - q) * l0.length = n - j := by rw [Nat.sub_mul]; omega
            obtain ⟨q2, hq2, hq3⟩ : ∃ q2, j + min j (n - j) = q2 * l0.length ∧ q2 ≤ c := by
              by_cases hc : j ≤ n - j
              · refine ⟨q + q, by rw [Nat.add_mul]; omega, ?_⟩
                have h3 : (q + q) * l0.length ≤ c * l0.length := by rw [Nat.add_mul]; omega
                exact Nat.le_of_mul_le_mul_right h3 (by have := HL.out; omega)
              · exact ⟨c, by omega, Nat.le_refl _⟩
            refine ⟨j + min j (n - j), q2, splice cu j ((vrep l0 c).take (min j (n - j))), (by first | rfl | (rw [Int.natCast_add]) | simp), ⟨by omega⟩, ⟨HG4.out⟩, ⟨?_, ?_⟩, HB4⟩
            · rw [length_splice _ _ _ (by have := HU.out.1; have := HNC.out; omega)]; exact HU.out.1
            · have h1 := take_splice2 (cur := cu) (cs := (vrep l0 c).take (min j (n - j))) (j := j) (by have := HU.out.1; have := HNC.out; omega)
              rw [hML] at h1
              have h4 := vrep_take l0 c q (min j (n - j)) (by omega) (by omega)
              rw [← hJ.2.2.2.1] at h4
              rw [h1, HU.out.2, h4]
        · have d1 : decide ((j : Int) < (n : Int)) = false := decide_eq_false (by omega)
          have d2 : (j < n) = False := eq_false hj
          have HJN := Aside0.mk hj
          clear hj
          go_wp2
          go_ret
          obtain rfl : j = n := by have := HJ.out; have := HJN.out; omega
          have hll := HLEN.out
          refine ⟨_, rfl, Kd.R_of_own ⟨by simp [encs], .inr ⟨g, cap, cu.toArray, by rw [hll]; rfl, HBG.out, HG.out, by rw [hll]; exact HNC.out, HCM.out, by have := HU.out.1; simp; omega, ?_⟩⟩ (fun _ _ => trivial), HB1.out⟩
          rw [hll, Nat.mul_one]
          have h5 := HU.out.2
          rw [List.take_of_length_le (l := vrep l0 c) (by have := HVL.out; omega)] at h5
          simpa [encs, vrep, List.map_flatten] using h5
set_option maxHeartbeats 8000000 in
set_option maxRecDepth 100000 in
theorem slices_Repeat_Sint64_int64.calls (A0 : Option Addr) (c0 : Nat) (l0 : List Int) (a1 : Int) (r : List Int) (w : World) (hr0 : Kd.C (Kd.int .i64) w A0 l0.length l0) (hc0 : l0.length ≤ c0) (h : slices_Repeat_Sint64_int64.f l0 a1 = some r) :
    Calls Try.prog 52 #[.slice A0 l0.length c0, .int .i64 a1] w fun e w' => ∃ v0_ : Value, e = .returned (v0_) ∧ Kd.R (Kd.int .i64) 2 w' w.heap.size (fun _ => True) v0_ r ∧ Below w.heap.size w w' := by
  unfold slices_Repeat_Sint64_int64.f at h
  by_cases c1 : l0.length = 1 ∧ (0 ≤ a1 ∧ a1 < 4294967296)
  · rw [if_pos c1] at h
    obtain rfl := Option.some.inj h
    obtain ⟨hl, ha, hb⟩ := c1
    obtain ⟨x, rfl⟩ : ∃ x, l0 = [x] := List.length_eq_one_iff.1 hl
    obtain ⟨n, rfl⟩ : ∃ n : Nat, a1 = (n : Int) := ⟨a1.toNat, by omega⟩
    obtain ⟨ad, e1, hx0⟩ := Kd.at_int hr0 0 (by omega) (by simp)
    cases e1
    rw [show rd [x] 0 = x from rfl] at hx0 ⊢
    rw [Int.toNat_natCast]
    (try rw [show ((0 : Int)).toNat = 0 from rfl] at hx0)
    (try rw [Addr.add_zero'] at hx0)
    have HN := Aside0.mk (show n < 4294967296 by omega)
    have HB := Aside0.mk (Below.refl w.heap.size w)
    have HX := Aside0.mk hx0
    have HM := Aside0.mk (fun W : World => math_bits_Mul.calls 1 (n : Int) _ _ W (mul_one_f n (by omega)))
    have k1 : decide ((n : Int) < 0) = false := decide_eq_false (by omega)
    have k2 : IntKind.u64.wrap (n : Int) = (n : Int) := u64_small n (by omega)
    have k3 : wrap64 (n : Int) = (n : Int) := by unfold wrap64; omega
    have k4 : decide ((n : Int) > 9223372036854775807) = false := decide_eq_false (by omega)
    clear hr0 hc0 h ha hb hl hx0
    obtain ⟨i0, hi0, _, hsz0, _⟩ := info_parts infoR
    have hcutF : ∀ (W : World) (g cap j : Nat), j < n → n ≤ cap → (Instr.slice 24 (.slice (some ⟨g, 0, none⟩) n cap) (some (.int .i64 (j : Int))) none none).run Try.prog W = .ok (.slice (some ⟨g, j, none⟩) (n - j) (cap - j)) W := fun W g cap j h1 h2 => by
      have h := cut_from (P := Try.prog) 24 2 .i64 Try.underlying24 hi0 1 hsz0 (some ⟨g, 0, none⟩) n cap (j : Int) (by omega) (by omega) W
      rw [Int.toNat_natCast, if_neg (by omega)] at h
      rw [h]
      simp [Addr.add]
      exact fun e => e.symm
    have hcutT : ∀ (W : World) (g cap j : Nat), j < n → n ≤ cap → (Instr.slice 24 (.slice (some ⟨g, 0, none⟩) n cap) none (some (.int .i64 (j : Int))) none).run Try.prog W = .ok (.slice (some ⟨g, 0, none⟩) j cap) W := fun W g cap j h1 h2 => by
      have h := cut_to (P := Try.prog) 24 2 .i64 Try.underlying24 hi0 (some ⟨g, 0, none⟩) n cap (j : Int) (by omega) (by omega) h2 W
      rwa [Int.toNat_natCast] at h
    have hesz : (Try.prog.info? 2).map (·.size) = some 1 := by kernel_rfl
    have HCF := Aside0.mk hcutF
    have HCT := Aside0.mk hcutT
    clear hcutF hcutT
    by_cases hn0 : n = 0
    · subst hn0
      go_enter Try.func52, Try.ntmps52
      go_wp2_with (first
        | (go_at_call 69; refine (HM.out _).mono ?_; rintro e w' ⟨rfl, ⟨n0, rfl⟩⟩)
        | ((with_reducible refine gate_dst (N := 30) rfl ?_); go_loud (refine Kd.R_make (Kd.int .i64) (w0 := w) w.heap.size 2 rfl (N := 30) rfl 24 _ _ rfl ((0 : Nat) : Int) rfl rfl Try.underlying24 (.int .i64 0) 8 infoR rfl (by decide) (by omega) 0 (ok := fun _ => True) (okp := fun _ => True) rfl (fun _ hk => hk) trivial (by omega) (by omega) (pw_below_drewN (Below.refl w.heap.size w) n0) (Nat.le_refl _) ?_; intro v7 w9 ho hb hg_ hnew_; obtain ⟨A7, c7, e7⟩ := Kd.R_slice ho; have HO := Aside0.mk ho; have HB1 := Aside0.mk hb; clear ho hb hg_ hnew_; rw [Int.toNat_natCast] at HO e7; subst e7))
        | ((with_reducible refine gate_builtin (b := .copy) (xs := #[.tmp 31, .tmp 32]) rfl ?_); go_loud (refine wpList_copy_nothing rfl (.tmp 31) (.tmp 32) 24 24 rfl 2 Try.underlying24 hesz _ _ _ _ _ _ rfl rfl (by simp) ?_)))
      go_loopg [8] 1 (fun kq v8 w' => v8 = .int .i64 0 ∧ Aside0 (kq = 1) ∧ w' = w9)
      case atStart => exact ⟨rfl, ⟨rfl⟩, rfl⟩
      case round =>
        obtain ⟨rfl, HQ, rfl⟩ := hrel
        go_wp2
        go_ret
        exact ⟨_, rfl, HO.out, HB1.out⟩
    · go_enter Try.func52, Try.ntmps52
      go_wp2_with (first
        | (go_at_call 69; refine (HM.out _).mono ?_; rintro e w' ⟨rfl, ⟨n0, rfl⟩⟩)
        | ((with_reducible refine gate_dst (N := 30) rfl ?_); go_loud (refine Kd.R_make (Kd.int .i64) (w0 := w) w.heap.size 2 rfl (N := 30) rfl 24 _ _ rfl (n : Int) (show Value.int .i64 (wrap64 (n : Int)) = Value.int .i64 (n : Int) by rw [k3]) (show Value.int .i64 (wrap64 (n : Int)) = Value.int .i64 (n : Int) by rw [k3]) Try.underlying24 (.int .i64 0) 8 infoR rfl (by decide) (by omega) 0 (ok := fun _ => True) (okp := fun _ => True) rfl (fun _ hk => hk) trivial (by omega) (by have := HN.out; omega) (pw_below_drewN (Below.refl w.heap.size w) n0) (Nat.le_refl _) ?_; intro v7 w9 ho hb hg_ hnew_; rw [Int.toNat_natCast] at ho; obtain ⟨hq, hh⟩ := Kd.own_of_R ho; rcases hh with ⟨_, hz⟩ | ⟨g, cap, cur, rfl, hbg, hcur, hnc, hcm, hsz, htk⟩; (exfalso; rw [List.length_replicate] at hz; omega); rw [List.length_replicate] at hnc ⊢; have HG := Aside0.mk hcur; have HBG := Aside0.mk hbg; have HNC := Aside0.mk hnc; have HCM := Aside0.mk hcm; have HSZ := Aside0.mk (show cur.size = cap by omega); have HB1 := Aside0.mk hb; clear ho hb hg_ hnew_ hq hbg hcur hnc hcm hsz htk))
        | ((with_reducible refine gate_builtin (b := .copy) (xs := #[.tmp 31, .tmp 32]) rfl ?_); go_loud (refine wpList_copy_splice rfl (.tmp 31) (.tmp 32) 24 24 rfl 2 Try.underlying24 hesz _ _ _ _ _ _ rfl rfl g 0 cur.toList 2 (by simpa using HG.out) [.int .i64 x] (show (1 : Nat) = min 1 n by omega) (fun _ => ⟨rfl, ad, rfl, fun j v hj => ?aC⟩) (by simp; have := HSZ.out; have := HNC.out; omega) (by simp; rfl) w.heap.size w HB1.out HBG.out ?_; (case aC => (have hi2 := (List.getElem?_eq_some_iff.1 hj).1; simp only [List.length_cons, List.length_nil, Nat.zero_add, Nat.lt_one_iff] at hi2; subst hi2; obtain rfl := Option.some.inj hj; simpa [Addr.add] using pw_cell_below HB1.out HX.out)); intro w10 hG hb10; have HG1 := Aside0.mk hG; have HB2 := Aside0.mk hb10; clear hG hb10)))
      go_loopg [8] (n + 1) (fun kq v8 w' => ∃ (j : Nat) (cu : List Value), v8 = .int .i64 (j : Int) ∧ Aside0 (1 ≤ j ∧ j ≤ n ∧ n < kq + j) ∧ Aside0 (w'.heap[g]? = some (.cells cu.toArray 2 (0, 0))) ∧ Aside0 (cu.length = cap ∧ cu.take j = List.replicate j (.int .i64 x)) ∧ Aside0 (Below w.heap.size w w'))
      case atStart => exact ⟨1, splice cur.toList 0 [.int .i64 x], rfl, ⟨by omega⟩, HG1, ⟨by rw [length_splice _ _ _ (by simp; have := HSZ.out; have := HNC.out; omega)]; simp; exact HSZ.out, take_splice (j := 0) (m := 1) (by simp) (by omega)⟩, HB2⟩
      case round =>
        clear HG1 HB2 HB1 HG HSZ
        obtain ⟨j, cu, rfl, HJ, HG, HU, HB1⟩ := hrel
        by_cases hj : j < n
        · obtain ⟨k1, rfl⟩ : ∃ k1, gk = k1 + 1 := ⟨gk - 1, by have := HJ.out; omega⟩
          have d1 : decide ((j : Int) < (n : Int)) = true := decide_eq_true (by omega)
          have d2 : (j < n) = True := eq_true hj
          have hF := fun W => HCF.out W g cap j hj HNC.out
          have hT := fun W => HCT.out W g cap j hj HNC.out
          have HJN := Aside0.mk hj
          clear hj
          go_wp2
          have HB3 := Aside0.mk (below_drew1 HB1.out)
          have HG3 := Aside0.mk (show wr.drew.heap[g]? = some (.cells cu.toArray 2 (0, 0)) from HG.out)
          clear HB1 HG
          refine start_ (n := 10) (S := fun w' => True) (ds := []) #[false,false,false,false,false,false,false,false,false,false] zk rfl rfl trivial (fun hHeld => ?_)
          generalize wr.drew = w3 at HB3 HG3 hHeld ⊢
          refine pure_ (i := 0) (N := some 38) (v := ?_) (a' := ?_) #[true,false,false,false,false,false,false,false,false,false] rfl rfl zk (fun _ _ _ h => h) (Or.inl ⟨by rfl, ?_⟩) ?_ ?_
          rotate_left; exact zp; rotate_left; exact zq
          refine pure_ (i := 1) (N := some 39) (v := ?_) (a' := ?_) #[true,true,false,false,false,false,false,false,false,false] rfl rfl zk (fun _ _ _ h => h) (Or.inl ⟨by rfl, ?_⟩) ?_ ?_
          rotate_left; exact zp; rotate_left; exact zq
          refine pure_ (i := 2) (N := some 40) (v := ?_) (a' := ?_) #[true,true,true,false,false,false,false,false,false,false] rfl rfl zk (fun _ _ _ h => h) (Or.inl ⟨by rfl, ?_⟩) ?_ ?_
          rotate_left; exact zp; rotate_left; exact zq
          refine pure_ (i := 3) (N := some 41) (v := ?_) (a' := ?_) #[true,true,true,true,false,false,false,false,false,false] rfl rfl zk (fun _ _ _ h => h) (Or.inl ⟨by rfl, ?_⟩) ?_ ?_
          rotate_left; exact zp; rotate_left; exact zq
          refine pure_ (i := 4) (N := some 42) (v := ?_) (a' := ?_) #[true,true,true,true,true,false,false,false,false,false] rfl rfl zk (fun _ _ _ h => h) (Or.inl ⟨by rfl, ?_⟩) ?_ ?_
          rotate_left; exact zp; rotate_left; exact zq
          refine pure_ (i := 5) (N := some 43) (v := ?_) (a' := ?_) #[true,true,true,true,true,true,false,false,false,false] rfl rfl zk (fun _ _ _ h => h) (Or.inl ⟨by rfl, ?_⟩) ?_ ?_
          rotate_left; exact zp; rotate_left; exact zq
          refine pure_ (i := 6) (N := some 44) (v := ?_) (a' := ?_) #[true,true,true,true,true,true,true,false,false,false] rfl rfl zk (fun _ _ _ h => h) (Or.inl ⟨by rfl, ?_⟩) ?_ ?_
          rotate_left; exact zp; rotate_left; exact zq
          refine one_ (i := 7) (N := some 45) #[true,true,true,true,true,true,true,true,false,false] rfl rfl zk (by decide) (fun K hK => ?_)
          refine step_copy_splice rfl (.tmp 41) (.tmp 44) 24 24 rfl 2 Try.underlying24 hesz (some ⟨g, j, none⟩) (some ⟨g, 0, none⟩) (n - j) (cap - j) j cap rfl rfl g j cu 2 HG3.out (List.replicate (min j (n - j)) (.int .i64 x)) (by rw [List.length_replicate]) (fun _ => ⟨rfl, ⟨g, 0, none⟩, rfl, fun i v hi => ?aC⟩) (by rw [List.length_replicate]; have := HU.out.1; have := HNC.out; have := HJN.out; omega) (fun v hv => by rw [(List.mem_replicate.1 hv).2]; rfl) w.heap.size w HB3.out HBG.out ?_
          case aC =>
            have hi2 := (List.getElem?_eq_some_iff.1 hi).1
            rw [List.length_replicate] at hi2
            have hv : (Value.int .i64 x) = v := by
              have := hi
              rw [List.getElem?_replicate, if_pos hi2] at this
              exact Option.some.inj this
            subst hv
            have h2 := blk_cell HG3.out i
            rw [List.getElem?_toArray, cell_take HU.out.2 (by omega)] at h2
            rw [show (⟨g, 0, none⟩ : Addr).add i = ⟨g, i, none⟩ by simp [Addr.add]; omega]
            exact h2
          intro w4 hg4 hb4
          have HG4 := Aside0.mk hg4
          have HB4 := Aside0.mk hb4
          clear hg4 hb4 HG3 HB3
          refine hK.out _ _ trivial (fun hHeld => ?_)
          clear hK K
          refine norm_ (a' := ?_) ?_ ?_
          rotate_left
          · show Act.put _ (some 45) _ = _
            simp only [Act.put, List.setIfInBounds_toArray, List.set_cons_zero, List.set_cons_succ, i64_w, i32_w]
            rfl
          refine pure_ (i := 8) (N := some 46) (v := .int .i64 (((j + min j (n - j) : Nat)) : Int)) (a' := ?_) #[true,true,true,true,true,true,true,true,true,false] rfl rfl zk (fun _ _ _ h => h) (Or.inl ⟨by rfl, ?_⟩) ?_ ?_
          · intro w'
            go_simp
            first | done | (simp only [i64_w]; unfold wrap64; have := HN.out; have := HJN.out; omega)
          rotate_left
          · simp only [Act.put, List.setIfInBounds_toArray, List.set_cons_zero, List.set_cons_succ, i64_w, i32_w]
            rfl
          refine pure_ (i := 9) (N := some 8) (v := ?_) (a' := ?_) #[true,true,true,true,true,true,true,true,true,true] rfl rfl zk (fun _ _ _ h => h) (Or.inl ⟨by rfl, ?_⟩) ?_ ?_
          rotate_left; exact zp; rotate_left; exact zq
          refine done_ zk ?_
          try go_wp2
          go_roundg k1
          case measure => omega
          case rel => exact ⟨j + min j (n - j), splice cu j (List.replicate (min j (n - j)) (.int .i64 x)), (by first | rfl | (rw [Int.natCast_add]) | simp), ⟨by have := HJ.out; have := HJN.out; omega⟩, ⟨HG4.out⟩, ⟨by rw [length_splice _ _ _ (by have := HU.out.1; have := HNC.out; have := HJN.out; rw [List.length_replicate]; omega)]; exact HU.out.1, take_splice HU.out.2 (by have := HU.out.1; have := HNC.out; have := HJN.out; omega)⟩, HB4⟩
        · have d1 : decide ((j : Int) < (n : Int)) = false := decide_eq_false (by omega)
          have d2 : (j < n) = False := eq_false hj
          have HJN := Aside0.mk hj
          clear hj
          go_wp2
          go_ret
          obtain rfl : j = n := by have := HJ.out; have := HJN.out; omega
          refine ⟨_, rfl, Kd.R_of_own ⟨by simp [encs], .inr ⟨g, cap, cu.toArray, by rw [List.length_replicate]; rfl, HBG.out, HG.out, by rw [List.length_replicate]; exact HNC.out, HCM.out, by have := HU.out.1; simp; omega, ?_⟩⟩ (fun _ _ => trivial), HB1.out⟩
          rw [List.length_replicate, Nat.mul_one]
          have := HU.out.2
          simpa [encs] using this
  · rw [if_neg c1] at h
    by_cases c2 : (1 ≤ l0.length ∧ l0.length ≤ 1024) ∧ (1 ≤ a1 ∧ a1 ≤ 1024)
    · rw [if_pos c2] at h
      obtain rfl := Option.some.inj h
      obtain ⟨n, rfl⟩ : ∃ n : Nat, a1 = (n : Int) := ⟨a1.toNat, by omega⟩
      rw [Int.toNat_natCast]
      exact fvRep_many A0 c0 l0 n w hr0 hc0 c2.1 (by omega)
    · rw [if_neg c2] at h
      exact absurd h (by simp)
end Go.Proofs.Ytgbapmmfhdphmaa.P
end
section
namespace Go.Proofs.Ytgbapmmfhdphmaa.P
open Go.RowKit Go.Proofs.YtgbapmmfhdphmaaW.PrintWords Go.Proofs.YtgbapmmfhdphmaaW.PrintLast Go.Proofs.YtgbapmmfhdphmaaW.PrintMore
attribute [local go_sem] max2_int min2_int max_two min_two max_three min_three max_four min_four   -- for this text's walks alone
set_option linter.unusedVariables false
set_option linter.unusedSimpArgs false
theorem goesV_ {P : Program} {ops : Array Oper} {Q : Exit → Act → World → Prop} {oi : Oper} {N : Option Tmp} {a : Act} {w : World} {K : Act → World → Prop} {g : Nat} {lb : Array Value} {c : Operand} {as_ : Array Operand} {ts : Array TypeId} (vs : Array Value)
    (hw : Region.wanted oi (yielded ops a.tmps) = true) (hN : oi.dst = N) (hop : oi.op = .call { callee := .value c, args := as_, argTypes := ts }) (hc : a.eval c = .func (.func g) #[] lb) (hargs : as_.map a.eval = vs)
    (eg : ∀ args w, (callFunc g args).run P w = .ok (.enter g args) w)
    (h : Calls P g (vs ++ lb) w fun e w' => ∃ v, e = .returned v ∧ K (a.put N v) w') : if Region.wanted oi (yielded ops a.tmps) = true then Oper.wp P oi a w K Q else K (a.put N undef) w := by
  refine call_ g (vs ++ lb) hw hN ?_ h
  unfold execOp
  simp [hop, resolve, Deferred.ofValue, invoke, hc, hargs, eg]
mutual
def insF.l0 (cmp : Int → Int → Int) : Nat → List Int → Int → Int → Int → Option (List Int)
  | 0, _, _, _, _ => none
  | k + 1, l, a, b, i => if i < b then (insF.l1 cmp k l a b i i) else (some l)
def insF.l1 (cmp : Int → Int → Int) : Nat → List Int → Int → Int → Int → Int → Option (List Int)
  | 0, _, _, _, _, _ => none
  | k + 1, l, a, b, i, j => if j > a then (if 0 ≤ j then (if j < (l.length : Int) then (if 0 ≤ wrap64 (j - 1) then (if wrap64 (j - 1) < (l.length : Int) then (if cmp (rd l j) (rd l (wrap64 (j - 1))) < 0 then (if wrap64 (j - 1) ≠ j then (insF.l1 cmp k ((l.set j.toNat (rd l (wrap64 (j - 1)))).set (wrap64 (j - 1)).toNat (rd l j)) a b i (wrap64 (j - 1))) else (none)) else (insF.l0 cmp k l a b (wrap64 (i + 1)))) else (none)) else (none)) else (none)) else (none)) else (insF.l0 cmp k l a b (wrap64 (i + 1)))
end
theorem insF.mono_l (cmp : Int → Int → Int) : ∀ k, (∀ y0 y1 y2 y3, LeO (insF.l0 cmp k y0 y1 y2 y3) (insF.l0 cmp (k + 1) y0 y1 y2 y3)) ∧ (∀ y0 y1 y2 y3 y4, LeO (insF.l1 cmp k y0 y1 y2 y3 y4) (insF.l1 cmp (k + 1) y0 y1 y2 y3 y4))
  | 0 => ⟨fun _ _ _ _ r h => by simp [insF.l0] at h, fun _ _ _ _ _ r h => by simp [insF.l1] at h⟩
  | k + 1 => by
    obtain ⟨ih0, ih1⟩ := insF.mono_l cmp k
    refine ⟨?_, ?_⟩
    · intro y0 y1 y2 y3
      unfold insF.l0
      repeat' first | (with_reducible exact ih1 _ _ _ _ _) | (with_reducible exact LeO.refl _) | (with_reducible exact LeO.none _) | (with_reducible refine LeO.ite ?_ ?_)
    · intro y0 y1 y2 y3 y4
      unfold insF.l1
      repeat' first | (with_reducible exact ih0 _ _ _ _) | (with_reducible exact ih1 _ _ _ _ _) | (with_reducible exact LeO.refl _) | (with_reducible exact LeO.none _) | (with_reducible refine LeO.ite ?_ ?_)
theorem mem_set2 {l : List Int} {i j : Nat} {x y z : Int} (h : z ∈ (l.set i x).set j y) : z = x ∨ z = y ∨ z ∈ l := by
  rcases List.mem_or_eq_of_mem_set h with h | h
  · rcases List.mem_or_eq_of_mem_set h with h | h
    · exact .inr (.inr h)
    · exact .inl h
  · exact .inr (.inl h)
set_option maxHeartbeats 16000000 in
set_option maxRecDepth 100000 in
theorem fvS_insertion (k g : Nat) (lb : Array Value) (eg : ∀ args w, (callFunc g args).run Try.prog w = .ok (.enter g args) w) (cmp : Int → Int → Int) (Q_ : Int → Prop) (P0_ : Nat → Prop) (u : Value) (l : List Int) (a b : Int) (r : List Int) (w0 w : World) (hB : Below w0.heap.size w0 w) (ho0 : Kd.R (Kd.int .i64) 2 w w0.heap.size P0_ u l) (hq : ∀ x ∈ l, Q_ x)
    (hp : ∀ W : World, Kept w W P0_ → ∀ x y : Int, Q_ x → Q_ y → Calls Try.prog g (#[.int .i64 x, .int .i64 y] ++ lb) W fun e w' => e = .returned (.int .i64 (cmp x y)) ∧ Below W.heap.size W w') (h : insF.l0 cmp k l a b (wrap64 (a + 1)) = some r) :
    Calls Try.prog 80 #[u, .int .i64 a, .int .i64 b, .func (.func g) #[] lb] w fun e w' => e = .returned (.tuple #[]) ∧ Kd.R (Kd.int .i64) 2 w' w0.heap.size P0_ u r ∧ Below w0.heap.size w0 w' ∧ Kept w w' P0_ := by
  have HO := Aside0.mk ho0
  have HQ := Aside0.mk hq
  have HP := Aside0.mk hp
  have HB := Aside0.mk hB
  have HK := Aside0.mk (Kept.refl w P0_)
  have H' := Aside0.mk h
  obtain ⟨Ao, co, rfl⟩ := Kd.R_slice ho0
  generalize l.length = n0 at HO ⊢
  clear ho0 hq hp hB h
  go_enter Try.func80, Try.ntmps80
  go_wp2
  go_loopg [8] k (fun kq v8 w' => ∃ (l_1 : List Int) (i_1 : Int), v8 = .int .i64 i_1 ∧ Aside0 (insF.l0 cmp kq l_1 a b i_1 = some r) ∧ Aside0 (kq ≤ k) ∧ Aside0 (∀ x ∈ l_1, Q_ x) ∧ Aside0 (Kd.R (Kd.int .i64) 2 w' w0.heap.size P0_ (.slice Ao n0 co) l_1) ∧ Aside0 (Below w0.heap.size w0 w') ∧ Aside0 (Kept w w' P0_))
  case atStart => exact ⟨l, (wrap64 (a + 1)), zF, H', ⟨Nat.le_refl _⟩, HQ, HO, HB, HK⟩
  case round =>
    clear H' HQ HO HB HK
    obtain ⟨l_1, i_1, rfl, HA, HK1, HQ, HO, HB, HK⟩ := hrel
    cases gk with
    | zero => exact absurd HA.out (by simp [insF.l0])
    | succ k1 =>
      have H := HA.out
      clear HA
      simp only [insF.l0] at H
      by_cases c12 : i_1 < b
      · rw [if_pos c12] at H
        have c12b0 : decide (i_1 < b) = true := decide_eq_true c12
        clear c12
        have H' := Aside0.mk H
        clear H
        go_wp2
        go_loopg [9] k1 (fun kq v9 w' => ∃ (l_2 : List Int) (j_2 : Int), v9 = .int .i64 j_2 ∧ Aside0 (insF.l1 cmp kq l_2 a b i_1 j_2 = some r) ∧ Aside0 (kq ≤ k1) ∧ Aside0 (∀ x ∈ l_2, Q_ x) ∧ Aside0 (Kd.R (Kd.int .i64) 2 w' w0.heap.size P0_ (.slice Ao n0 co) l_2) ∧ Aside0 (Below w0.heap.size w0 w') ∧ Aside0 (Kept w w' P0_))
        case atStart => exact ⟨l_1, i_1, zF, H', ⟨Nat.le_refl _⟩, HQ, HO, HB, HK⟩
        case round =>
          clear H' HQ HO HB HK
          try clear c12b0
          obtain ⟨l_2, j_2, rfl, HA, HK2, HQ, HO, HB, HK⟩ := hrel
          cases gk with
          | zero => exact absurd HA.out (by simp [insF.l1])
          | succ k2 =>
            have H := HA.out
            clear HA
            simp only [insF.l1] at H
            obtain rfl := (Kd.R_reads' HO.out).1
            by_cases c13 : j_2 > a
            · rw [if_pos c13] at H
              have c13b0 : decide (j_2 > a) = true := decide_eq_true c13
              have c13b1 : decide (a < j_2) = true := decide_eq_true c13
              by_cases c14 : 0 ≤ j_2
              · rw [if_pos c14] at H
                by_cases c15 : j_2 < (l_2.length : Int)
                · rw [if_pos c15] at H
                  by_cases c16 : 0 ≤ wrap64 (j_2 - 1)
                  · rw [if_pos c16] at H
                    by_cases c17 : wrap64 (j_2 - 1) < (l_2.length : Int)
                    · rw [if_pos c17] at H
                      obtain ⟨go15, co15, eo15, gb15, gl15, cl15, HG15⟩ := Kd.R_form HO.out (by omega)
                      (first | cases eo15 | (injection eo15 with ea_ en_ ec_; (first | subst ea_ | (injection ea_ with ea_; subst ea_)); subst ec_; clear en_))
                      have GB15 := Aside0.mk gb15
                      clear gb15 gl15 HG15
                      obtain ⟨hx0, hf0⟩ := Kd.R_celln 0 HO.out j_2 c14 c15
                      obtain ⟨hx1, hf1⟩ := Kd.R_celln 0 HO.out (wrap64 (j_2 - 1)) c16 c17
                      have p14 := eq_true c14
                      have p15 := eq_true c15
                      have p16 := eq_true c16
                      have p17 := eq_true c17
                      have HPG := Aside0.mk (HO.out.1 _ rfl)
                      by_cases c18 : cmp (rd l_2 j_2) (rd l_2 (wrap64 (j_2 - 1))) < 0
                      · rw [if_pos c18] at H
                        by_cases c19 : wrap64 (j_2 - 1) ≠ j_2
                        · rw [if_pos c19] at H
                          have c18b0 : decide (cmp (rd l_2 j_2) (rd l_2 (wrap64 (j_2 - 1))) < 0) = true := decide_eq_true c18
                          have H' := Aside0.mk H
                          clear H c18 c19
                          have HQ2 := Aside0.mk (fun (x : Int) (hx : x ∈ (l_2.set j_2.toNat (rd l_2 (wrap64 (j_2 - 1)))).set (wrap64 (j_2 - 1)).toNat (rd l_2 j_2)) => show Q_ x from by
                            rcases mem_set2 hx with rfl | rfl | hx
                            · exact HQ.out _ (rd_mem c16 c17)
                            · exact HQ.out _ (rd_mem c14 c15)
                            · exact HQ.out _ hx)
                          try go_wp2
                          refine start_ (n := 17) (S := fun w' => w'.cell? ⟨go15, j_2.toNat, none⟩ = some (.int .i64 (rd l_2 j_2)) ∧ w'.cell? ⟨go15, (wrap64 (j_2 - 1)).toNat, none⟩ = some (.int .i64 (rd l_2 (wrap64 (j_2 - 1))))) (ds := []) #[false,false,false,false,false,false,false,false,false,false,false,false,false,false,false,false,false] zk rfl rfl ⟨hx0, hx1⟩ (fun hHeld => ?_)
                          have HO1 := Aside0.mk (Kd.R_drew HO.out)
                          have HB1 := Aside0.mk (below_drew1 HB.out)
                          have HK1_ := Aside0.mk (Kept.drew HK.out)
                          clear HO HB HK hx0 hx1 hf0 hf1
                          generalize wr.drew = w3 at HO1 HB1 HK1_ hHeld ⊢
                          refine pure_ (i := 0) (N := some 18) (v := ?_) (a' := ?_) #[true,false,false,false,false,false,false,false,false,false,false,false,false,false,false,false,false] rfl rfl zk (fun _ _ _ h => h) (Or.inl ⟨by rfl, ?_⟩) ?_ ?_
                          rotate_left; exact zp; rotate_left; exact zq
                          refine pure_ (i := 1) (N := some 19) (v := ?_) (a' := ?_) #[true,true,false,false,false,false,false,false,false,false,false,false,false,false,false,false,false] rfl rfl zk (fun _ _ _ h => h) (Or.inl ⟨by rfl, ?_⟩) ?_ ?_
                          rotate_left; exact zp; rotate_left; exact zq
                          refine pure_ (i := 2) (N := some 20) (v := ?_) (a' := ?_) #[true,true,true,false,false,false,false,false,false,false,false,false,false,false,false,false,false] rfl rfl zk (fun _ _ _ h => h) (Or.inl ⟨by rfl, ?_⟩) ?_ ?_
                          rotate_left; exact zp; rotate_left; exact zq
                          refine pure_ (i := 3) (N := some 21) (v := ?_) (a' := ?_) #[true,true,true,true,false,false,false,false,false,false,false,false,false,false,false,false,false] rfl rfl zk (fun _ _ _ h => h) (Or.inl ⟨by rfl, ?_⟩) ?_ ?_
                          rotate_left; exact zp; rotate_left; exact zq
                          refine pure_ (i := 4) (N := some 22) (v := ?_) (a' := ?_) #[true,true,true,true,true,false,false,false,false,false,false,false,false,false,false,false,false] rfl rfl zk (fun _ _ _ h => h) (Or.inl ⟨by rfl, ?_⟩) ?_ ?_
                          rotate_left; exact zp; rotate_left; exact zq
                          refine pure_ (i := 5) (N := some 23) (v := ?_) (a' := ?_) #[true,true,true,true,true,true,false,false,false,false,false,false,false,false,false,false,false] rfl rfl zk (fun _ _ _ h => h) (Or.inl ⟨by rfl, ?_⟩) ?_ ?_
                          rotate_left; exact zp; rotate_left; exact zq
                          refine pure_ (i := 6) (N := some 24) (v := ?_) (a' := ?_) #[true,true,true,true,true,true,true,false,false,false,false,false,false,false,false,false,false] rfl rfl zk (fun _ _ _ h => h) (Or.inl ⟨by rfl, ?_⟩) ?_ ?_
                          rotate_left; exact zp; rotate_left; exact zq
                          refine pure_ (i := 7) (N := some 25) (v := ?_) (a' := ?_) #[true,true,true,true,true,true,true,true,false,false,false,false,false,false,false,false,false] rfl rfl zk (fun _ _ _ h => h) (Or.inl ⟨by rfl, ?_⟩) ?_ ?_
                          rotate_left; exact zp; rotate_left; exact zq
                          refine take_ (i := 8) (N := some 26) (v := ?_) (a' := ?_) #[true,true,true,true,true,true,true,true,true,false,false,false,false,false,false,false,false] rfl rfl zk (fun _ _ _ h => h) (Or.inl ⟨by rfl, ?_⟩) hHeld ?_ ?_
                          rotate_left
                          · rintro w' ⟨s0, s1⟩
                            go_simp
                            with_reducible rfl
                          rotate_left
                          · simp only [Act.put, List.setIfInBounds_toArray, List.set_cons_zero, List.set_cons_succ, i64_w, i32_w]
                            rfl
                          refine pure_ (i := 9) (N := some 27) (v := ?_) (a' := ?_) #[true,true,true,true,true,true,true,true,true,true,false,false,false,false,false,false,false] rfl rfl zk (fun _ _ _ h => h) (Or.inl ⟨by rfl, ?_⟩) ?_ ?_
                          rotate_left; exact zp; rotate_left; exact zq
                          refine pure_ (i := 10) (N := some 28) (v := ?_) (a' := ?_) #[true,true,true,true,true,true,true,true,true,true,true,false,false,false,false,false,false] rfl rfl zk (fun _ _ _ h => h) (Or.inl ⟨by rfl, ?_⟩) ?_ ?_
                          rotate_left; exact zp; rotate_left; exact zq
                          refine pure_ (i := 11) (N := some 29) (v := ?_) (a' := ?_) #[true,true,true,true,true,true,true,true,true,true,true,true,false,false,false,false,false] rfl rfl zk (fun _ _ _ h => h) (Or.inl ⟨by rfl, ?_⟩) ?_ ?_
                          rotate_left; exact zp; rotate_left; exact zq
                          refine pure_ (i := 12) (N := some 30) (v := ?_) (a' := ?_) #[true,true,true,true,true,true,true,true,true,true,true,true,true,false,false,false,false] rfl rfl zk (fun _ _ _ h => h) (Or.inl ⟨by rfl, ?_⟩) ?_ ?_
                          rotate_left; exact zp; rotate_left; exact zq
                          refine take_ (i := 13) (N := some 31) (v := ?_) (a' := ?_) #[true,true,true,true,true,true,true,true,true,true,true,true,true,true,false,false,false] rfl rfl zk (fun _ _ _ h => h) (Or.inl ⟨by rfl, ?_⟩) hHeld ?_ ?_
                          rotate_left
                          · rintro w' ⟨s0, s1⟩
                            go_simp
                            with_reducible rfl
                          rotate_left
                          · simp only [Act.put, List.setIfInBounds_toArray, List.set_cons_zero, List.set_cons_succ, i64_w, i32_w]
                            rfl
                          refine one_ (i := 14) (N := some 32) #[true,true,true,true,true,true,true,true,true,true,true,true,true,true,true,false,false] rfl rfl zk (by decide) (fun K hK => ?_)
                          refine goesV_ (g := g) (lb := lb) #[.int .i64 (rd l_2 j_2), .int .i64 (rd l_2 (wrap64 (j_2 - 1)))] (by rfl) rfl rfl (by rfl) (by (try simp only [List.map_toArray, List.map_cons, List.map_nil]); first | done | rfl) eg ?_
                          refine (HP.out _ HK1_.out _ _ (HQ.out _ (rd_mem c14 c15)) (HQ.out _ (rd_mem c16 c17))).mono ?_
                          rintro e w4 ⟨rfl, hb⟩
                          have HO2 := Aside0.mk (Kd.R_kept HO1.out (Kept.of_below hb (fun _ => False)) (fun _ _ h_ => h_))
                          have HB2 := Aside0.mk (below_step HB1.out hb)
                          have HK2_ := Aside0.mk (Kept.below HK1_.out hb)
                          have hy0 := (hb.cell (World.block_lt_of_cell? _ _ hHeld.1)).trans hHeld.1
                          have hy1 := (hb.cell (World.block_lt_of_cell? _ _ hHeld.2)).trans hHeld.2
                          clear HO1 HB1 HK1_ hb
                          refine ⟨_, rfl, ?_⟩
                          refine hK.out _ _ ⟨hy0, hy1⟩ (fun hHeld => ?_)
                          clear hK K
                          refine norm_ (a' := ?_) ?_ ?_
                          rotate_left
                          · show Act.put _ (some 32) _ = _
                            simp only [Act.put, List.setIfInBounds_toArray, List.set_cons_zero, List.set_cons_succ, i64_w, i32_w]
                            rfl
                          refine pure_ (i := 15) (N := some 33) (v := ?_) (a' := ?_) #[true,true,true,true,true,true,true,true,true,true,true,true,true,true,true,true,false] rfl rfl zk (fun _ _ _ h => h) (Or.inl ⟨by rfl, ?_⟩) ?_ ?_
                          rotate_left; exact zp; rotate_left; exact zq
                          refine pure_ (i := 16) (N := some 34) (v := ?_) (a' := ?_) #[true,true,true,true,true,true,true,true,true,true,true,true,true,true,true,true,true] rfl rfl zk (fun _ _ _ h => h) (Or.inl ⟨by rfl, ?_⟩) ?_ ?_
                          rotate_left; exact zp; rotate_left; exact zq
                          refine done_ zk ?_
                          try go_wp2
                          have HO3 := Aside0.mk (Kd.R_drew HO2.out)
                          have HB3 := Aside0.mk (below_drew1 HB2.out)
                          have HK3_ := Aside0.mk (Kept.drew HK2_.out)
                          obtain ⟨hx0, hf0⟩ := Kd.R_celln 0 HO3.out j_2 (of_eq_true p14) (of_eq_true p15)
                          obtain ⟨hx1, hf1⟩ := Kd.R_celln 0 HO3.out (wrap64 (j_2 - 1)) (of_eq_true p16) (of_eq_true p17)
                          have hP1 := Kd.R_putn HO3.out j_2 (rd l_2 (wrap64 (j_2 - 1)))
                          obtain ⟨hx2, hf2⟩ := Kd.R_celln 0 hP1 (wrap64 (j_2 - 1)) (of_eq_true p16) (of_eq_true p17)
                          have HP2 := Aside0.mk (Kd.R_putn hP1 (wrap64 (j_2 - 1)) (rd l_2 j_2))
                          clear hP1
                          refine start_ (n := 18) (S := fun w' => w'.cell? ⟨go15, j_2.toNat, none⟩ = some (.int .i64 (rd l_2 j_2)) ∧ w'.cell? ⟨go15, (wrap64 (j_2 - 1)).toNat, none⟩ = some (.int .i64 (rd l_2 (wrap64 (j_2 - 1))))) (ds := [15, 17]) #[false,false,false,false,false,false,false,false,false,false,false,false,false,false,false,false,false,false] zk rfl rfl ⟨hx0, hx1⟩ (fun hHeld => ?_)
                          generalize w4.drew = w5 at HO3 HB3 HK3_ HP2 hx0 hf0 hx1 hf1 hx2 hf2 hHeld ⊢
                          refine pure_ (i := 0) (N := some 37) (v := ?_) (a' := ?_) #[true,false,false,false,false,false,false,false,false,false,false,false,false,false,false,false,false,false] rfl rfl zk (fun _ _ _ h => h) (Or.inl ⟨by rfl, ?_⟩) ?_ ?_
                          rotate_left; exact zp; rotate_left; exact zq
                          refine pure_ (i := 1) (N := some 38) (v := ?_) (a' := ?_) #[true,true,false,false,false,false,false,false,false,false,false,false,false,false,false,false,false,false] rfl rfl zk (fun _ _ _ h => h) (Or.inl ⟨by rfl, ?_⟩) ?_ ?_
                          rotate_left; exact zp; rotate_left; exact zq
                          refine pure_ (i := 2) (N := some 39) (v := ?_) (a' := ?_) #[true,true,true,false,false,false,false,false,false,false,false,false,false,false,false,false,false,false] rfl rfl zk (fun _ _ _ h => h) (Or.inl ⟨by rfl, ?_⟩) ?_ ?_
                          rotate_left; exact zp; rotate_left; exact zq
                          refine pure_ (i := 3) (N := some 40) (v := ?_) (a' := ?_) #[true,true,true,true,false,false,false,false,false,false,false,false,false,false,false,false,false,false] rfl rfl zk (fun _ _ _ h => h) (Or.inl ⟨by rfl, ?_⟩) ?_ ?_
                          rotate_left; exact zp; rotate_left; exact zq
                          refine pure_ (i := 4) (N := some 41) (v := ?_) (a' := ?_) #[true,true,true,true,true,false,false,false,false,false,false,false,false,false,false,false,false,false] rfl rfl zk (fun _ _ _ h => h) (Or.inl ⟨by rfl, ?_⟩) ?_ ?_
                          rotate_left; exact zp; rotate_left; exact zq
                          refine pure_ (i := 5) (N := some 42) (v := ?_) (a' := ?_) #[true,true,true,true,true,true,false,false,false,false,false,false,false,false,false,false,false,false] rfl rfl zk (fun _ _ _ h => h) (Or.inl ⟨by rfl, ?_⟩) ?_ ?_
                          rotate_left; exact zp; rotate_left; exact zq
                          refine pure_ (i := 6) (N := some 43) (v := ?_) (a' := ?_) #[true,true,true,true,true,true,true,false,false,false,false,false,false,false,false,false,false,false] rfl rfl zk (fun _ _ _ h => h) (Or.inl ⟨by rfl, ?_⟩) ?_ ?_
                          rotate_left; exact zp; rotate_left; exact zq
                          refine pure_ (i := 7) (N := some 44) (v := ?_) (a' := ?_) #[true,true,true,true,true,true,true,true,false,false,false,false,false,false,false,false,false,false] rfl rfl zk (fun _ _ _ h => h) (Or.inl ⟨by rfl, ?_⟩) ?_ ?_
                          rotate_left; exact zp; rotate_left; exact zq
                          refine pure_ (i := 8) (N := some 45) (v := ?_) (a' := ?_) #[true,true,true,true,true,true,true,true,true,false,false,false,false,false,false,false,false,false] rfl rfl zk (fun _ _ _ h => h) (Or.inl ⟨by rfl, ?_⟩) ?_ ?_
                          rotate_left; exact zp; rotate_left; exact zq
                          refine take_ (i := 9) (N := some 46) (v := ?_) (a' := ?_) #[true,true,true,true,true,true,true,true,true,true,false,false,false,false,false,false,false,false] rfl rfl zk (fun _ _ _ h => h) (Or.inl ⟨by rfl, ?_⟩) hHeld ?_ ?_
                          rotate_left
                          · rintro w' ⟨s0, s1⟩
                            go_simp
                            with_reducible rfl
                          rotate_left
                          · simp only [Act.put, List.setIfInBounds_toArray, List.set_cons_zero, List.set_cons_succ, i64_w, i32_w]
                            rfl
                          refine pure_ (i := 10) (N := some 47) (v := ?_) (a' := ?_) #[true,true,true,true,true,true,true,true,true,true,true,false,false,false,false,false,false,false] rfl rfl zk (fun _ _ _ h => h) (Or.inl ⟨by rfl, ?_⟩) ?_ ?_
                          rotate_left; exact zp; rotate_left; exact zq
                          refine pure_ (i := 11) (N := some 48) (v := ?_) (a' := ?_) #[true,true,true,true,true,true,true,true,true,true,true,true,false,false,false,false,false,false] rfl rfl zk (fun _ _ _ h => h) (Or.inl ⟨by rfl, ?_⟩) ?_ ?_
                          rotate_left; exact zp; rotate_left; exact zq
                          refine pure_ (i := 12) (N := some 49) (v := ?_) (a' := ?_) #[true,true,true,true,true,true,true,true,true,true,true,true,true,false,false,false,false,false] rfl rfl zk (fun _ _ _ h => h) (Or.inl ⟨by rfl, ?_⟩) ?_ ?_
                          rotate_left; exact zp; rotate_left; exact zq
                          refine take_ (i := 13) (N := some 50) (v := ?_) (a' := ?_) #[true,true,true,true,true,true,true,true,true,true,true,true,true,true,false,false,false,false] rfl rfl zk (fun _ _ _ h => h) (Or.inl ⟨by rfl, ?_⟩) hHeld ?_ ?_
                          rotate_left
                          · rintro w' ⟨s0, s1⟩
                            go_simp
                            with_reducible rfl
                          rotate_left
                          · simp only [Act.put, List.setIfInBounds_toArray, List.set_cons_zero, List.set_cons_succ, i64_w, i32_w]
                            rfl
                          refine pure_ (i := 14) (N := some 51) (v := ?_) (a' := ?_) #[true,true,true,true,true,true,true,true,true,true,true,true,true,true,true,false,false,false] rfl rfl zk (fun _ _ _ h => h) (Or.inl ⟨by rfl, ?_⟩) ?_ ?_
                          rotate_left; exact zp; rotate_left; exact zq
                          refine last_ (i := 15) (N := none) #[true,true,true,true,true,true,true,true,true,true,true,true,true,true,true,true,false,false] rfl rfl zk (by decide) (fun K hK => ?_)
                          refine skip_ (w1 := ?_) (by rfl) rfl ?_ ?_
                          rotate_left
                          · go_simp
                            rfl
                          refine hK.out _ _ ?_
                          clear hK K
                          refine pure_ (i := 16) (N := some 52) (v := ?_) (a' := ?_) #[true,true,true,true,true,true,true,true,true,true,true,true,true,true,true,true,true,false] rfl rfl zk (fun _ _ _ h => h) (Or.inl ⟨by rfl, ?_⟩) ?_ ?_
                          rotate_left; exact zp; rotate_left; exact zq
                          refine last_ (i := 17) (N := none) #[true,true,true,true,true,true,true,true,true,true,true,true,true,true,true,true,true,true] rfl rfl zk (by decide) (fun K hK => ?_)
                          refine skip_ (w1 := ?_) (by rfl) rfl ?_ ?_
                          rotate_left
                          · go_simp
                            rfl
                          refine hK.out _ _ ?_
                          clear hK K
                          refine done_ zk ?_
                          try go_wp2
                          go_roundg k2
                          case measure => have := HK1.out; have := HK2.out; omega
                          case rel => exact ⟨_, (wrap64 (j_2 - 1)), zF, H', ⟨by have := HK1.out; have := HK2.out; omega⟩, ⟨HQ2.out⟩, HP2, ⟨below_set (below_set HB3.out GB15.out) GB15.out⟩, ⟨Kept.setCell (p := ⟨go15, (wrap64 (j_2 - 1)).toNat, none⟩) (Kept.setCell (p := ⟨go15, j_2.toNat, none⟩) HK3_.out (.inl HPG.out) _) (.inl HPG.out) _⟩⟩
                        · rw [if_neg c19] at H
                          exact absurd H (by simp)
                      · rw [if_neg c18] at H
                        have c18b0 : decide (cmp (rd l_2 j_2) (rd l_2 (wrap64 (j_2 - 1))) < 0) = false := decide_eq_false c18
                        have H' := Aside0.mk H
                        clear H c18
                        try go_wp2
                        refine start_ (n := 17) (S := fun w' => w'.cell? ⟨go15, j_2.toNat, none⟩ = some (.int .i64 (rd l_2 j_2)) ∧ w'.cell? ⟨go15, (wrap64 (j_2 - 1)).toNat, none⟩ = some (.int .i64 (rd l_2 (wrap64 (j_2 - 1))))) (ds := []) #[false,false,false,false,false,false,false,false,false,false,false,false,false,false,false,false,false] zk rfl rfl ⟨hx0, hx1⟩ (fun hHeld => ?_)
                        have HO1 := Aside0.mk (Kd.R_drew HO.out)
                        have HB1 := Aside0.mk (below_drew1 HB.out)
                        have HK1_ := Aside0.mk (Kept.drew HK.out)
                        clear HO HB HK hx0 hx1 hf0 hf1
                        generalize wr.drew = w3 at HO1 HB1 HK1_ hHeld ⊢
                        refine pure_ (i := 0) (N := some 18) (v := ?_) (a' := ?_) #[true,false,false,false,false,false,false,false,false,false,false,false,false,false,false,false,false] rfl rfl zk (fun _ _ _ h => h) (Or.inl ⟨by rfl, ?_⟩) ?_ ?_
                        rotate_left; exact zp; rotate_left; exact zq
                        refine pure_ (i := 1) (N := some 19) (v := ?_) (a' := ?_) #[true,true,false,false,false,false,false,false,false,false,false,false,false,false,false,false,false] rfl rfl zk (fun _ _ _ h => h) (Or.inl ⟨by rfl, ?_⟩) ?_ ?_
                        rotate_left; exact zp; rotate_left; exact zq
                        refine pure_ (i := 2) (N := some 20) (v := ?_) (a' := ?_) #[true,true,true,false,false,false,false,false,false,false,false,false,false,false,false,false,false] rfl rfl zk (fun _ _ _ h => h) (Or.inl ⟨by rfl, ?_⟩) ?_ ?_
                        rotate_left; exact zp; rotate_left; exact zq
                        refine pure_ (i := 3) (N := some 21) (v := ?_) (a' := ?_) #[true,true,true,true,false,false,false,false,false,false,false,false,false,false,false,false,false] rfl rfl zk (fun _ _ _ h => h) (Or.inl ⟨by rfl, ?_⟩) ?_ ?_
                        rotate_left; exact zp; rotate_left; exact zq
                        refine pure_ (i := 4) (N := some 22) (v := ?_) (a' := ?_) #[true,true,true,true,true,false,false,false,false,false,false,false,false,false,false,false,false] rfl rfl zk (fun _ _ _ h => h) (Or.inl ⟨by rfl, ?_⟩) ?_ ?_
                        rotate_left; exact zp; rotate_left; exact zq
                        refine pure_ (i := 5) (N := some 23) (v := ?_) (a' := ?_) #[true,true,true,true,true,true,false,false,false,false,false,false,false,false,false,false,false] rfl rfl zk (fun _ _ _ h => h) (Or.inl ⟨by rfl, ?_⟩) ?_ ?_
                        rotate_left; exact zp; rotate_left; exact zq
                        refine pure_ (i := 6) (N := some 24) (v := ?_) (a' := ?_) #[true,true,true,true,true,true,true,false,false,false,false,false,false,false,false,false,false] rfl rfl zk (fun _ _ _ h => h) (Or.inl ⟨by rfl, ?_⟩) ?_ ?_
                        rotate_left; exact zp; rotate_left; exact zq
                        refine pure_ (i := 7) (N := some 25) (v := ?_) (a' := ?_) #[true,true,true,true,true,true,true,true,false,false,false,false,false,false,false,false,false] rfl rfl zk (fun _ _ _ h => h) (Or.inl ⟨by rfl, ?_⟩) ?_ ?_
                        rotate_left; exact zp; rotate_left; exact zq
                        refine take_ (i := 8) (N := some 26) (v := ?_) (a' := ?_) #[true,true,true,true,true,true,true,true,true,false,false,false,false,false,false,false,false] rfl rfl zk (fun _ _ _ h => h) (Or.inl ⟨by rfl, ?_⟩) hHeld ?_ ?_
                        rotate_left
                        · rintro w' ⟨s0, s1⟩
                          go_simp
                          with_reducible rfl
                        rotate_left
                        · simp only [Act.put, List.setIfInBounds_toArray, List.set_cons_zero, List.set_cons_succ, i64_w, i32_w]
                          rfl
                        refine pure_ (i := 9) (N := some 27) (v := ?_) (a' := ?_) #[true,true,true,true,true,true,true,true,true,true,false,false,false,false,false,false,false] rfl rfl zk (fun _ _ _ h => h) (Or.inl ⟨by rfl, ?_⟩) ?_ ?_
                        rotate_left; exact zp; rotate_left; exact zq
                        refine pure_ (i := 10) (N := some 28) (v := ?_) (a' := ?_) #[true,true,true,true,true,true,true,true,true,true,true,false,false,false,false,false,false] rfl rfl zk (fun _ _ _ h => h) (Or.inl ⟨by rfl, ?_⟩) ?_ ?_
                        rotate_left; exact zp; rotate_left; exact zq
                        refine pure_ (i := 11) (N := some 29) (v := ?_) (a' := ?_) #[true,true,true,true,true,true,true,true,true,true,true,true,false,false,false,false,false] rfl rfl zk (fun _ _ _ h => h) (Or.inl ⟨by rfl, ?_⟩) ?_ ?_
                        rotate_left; exact zp; rotate_left; exact zq
                        refine pure_ (i := 12) (N := some 30) (v := ?_) (a' := ?_) #[true,true,true,true,true,true,true,true,true,true,true,true,true,false,false,false,false] rfl rfl zk (fun _ _ _ h => h) (Or.inl ⟨by rfl, ?_⟩) ?_ ?_
                        rotate_left; exact zp; rotate_left; exact zq
                        refine take_ (i := 13) (N := some 31) (v := ?_) (a' := ?_) #[true,true,true,true,true,true,true,true,true,true,true,true,true,true,false,false,false] rfl rfl zk (fun _ _ _ h => h) (Or.inl ⟨by rfl, ?_⟩) hHeld ?_ ?_
                        rotate_left
                        · rintro w' ⟨s0, s1⟩
                          go_simp
                          with_reducible rfl
                        rotate_left
                        · simp only [Act.put, List.setIfInBounds_toArray, List.set_cons_zero, List.set_cons_succ, i64_w, i32_w]
                          rfl
                        refine one_ (i := 14) (N := some 32) #[true,true,true,true,true,true,true,true,true,true,true,true,true,true,true,false,false] rfl rfl zk (by decide) (fun K hK => ?_)
                        refine goesV_ (g := g) (lb := lb) #[.int .i64 (rd l_2 j_2), .int .i64 (rd l_2 (wrap64 (j_2 - 1)))] (by rfl) rfl rfl (by rfl) (by (try simp only [List.map_toArray, List.map_cons, List.map_nil]); first | done | rfl) eg ?_
                        refine (HP.out _ HK1_.out _ _ (HQ.out _ (rd_mem c14 c15)) (HQ.out _ (rd_mem c16 c17))).mono ?_
                        rintro e w4 ⟨rfl, hb⟩
                        have HO2 := Aside0.mk (Kd.R_kept HO1.out (Kept.of_below hb (fun _ => False)) (fun _ _ h_ => h_))
                        have HB2 := Aside0.mk (below_step HB1.out hb)
                        have HK2_ := Aside0.mk (Kept.below HK1_.out hb)
                        have hy0 := (hb.cell (World.block_lt_of_cell? _ _ hHeld.1)).trans hHeld.1
                        have hy1 := (hb.cell (World.block_lt_of_cell? _ _ hHeld.2)).trans hHeld.2
                        clear HO1 HB1 HK1_ hb
                        refine ⟨_, rfl, ?_⟩
                        refine hK.out _ _ ⟨hy0, hy1⟩ (fun hHeld => ?_)
                        clear hK K
                        refine norm_ (a' := ?_) ?_ ?_
                        rotate_left
                        · show Act.put _ (some 32) _ = _
                          simp only [Act.put, List.setIfInBounds_toArray, List.set_cons_zero, List.set_cons_succ, i64_w, i32_w]
                          rfl
                        refine pure_ (i := 15) (N := some 33) (v := ?_) (a' := ?_) #[true,true,true,true,true,true,true,true,true,true,true,true,true,true,true,true,false] rfl rfl zk (fun _ _ _ h => h) (Or.inl ⟨by rfl, ?_⟩) ?_ ?_
                        rotate_left; exact zp; rotate_left; exact zq
                        refine pure_ (i := 16) (N := some 34) (v := ?_) (a' := ?_) #[true,true,true,true,true,true,true,true,true,true,true,true,true,true,true,true,true] rfl rfl zk (fun _ _ _ h => h) (Or.inl ⟨by rfl, ?_⟩) ?_ ?_
                        rotate_left; exact zp; rotate_left; exact zq
                        refine done_ zk ?_
                        try go_wp2
                        go_roundg k2
                        case measure => have := HK1.out; have := HK2.out; omega
                        case rel => exact ⟨l_2, (wrap64 (i_1 + 1)), zF, H', ⟨by have := HK1.out; have := HK2.out; omega⟩, HQ, HO2, HB2, HK2_⟩
                    · rw [if_neg c17] at H
                      exact absurd H (by simp)
                  · rw [if_neg c16] at H
                    exact absurd H (by simp)
                · rw [if_neg c15] at H
                  exact absurd H (by simp)
              · rw [if_neg c14] at H
                exact absurd H (by simp)
            · rw [if_neg c13] at H
              have c13b0 : decide (j_2 > a) = false := decide_eq_false c13
              have c13b1 : decide (a < j_2) = false := decide_eq_false (by omega)
              clear c13
              have H' := Aside0.mk H
              clear H
              try go_wp2
              refine start_ (n := 17) (S := fun w' => True) (ds := []) #[false,false,false,false,false,false,false,false,false,false,false,false,false,false,false,false,false] zk rfl rfl trivial (fun hHeld => ?_)
              have HO1 := Aside0.mk (Kd.R_drew HO.out)
              have HB1 := Aside0.mk (below_drew1 HB.out)
              have HK1_ := Aside0.mk (Kept.drew HK.out)
              clear HO HB HK
              generalize wr.drew = w3 at HO1 HB1 HK1_ hHeld ⊢
              refine pure_ (i := 0) (N := some 18) (v := ?_) (a' := ?_) #[true,false,false,false,false,false,false,false,false,false,false,false,false,false,false,false,false] rfl rfl zk (fun _ _ _ h => h) (Or.inl ⟨by rfl, ?_⟩) ?_ ?_
              rotate_left; exact zp; rotate_left; exact zq
              refine pure_ (i := 1) (N := some 19) (v := ?_) (a' := ?_) #[true,true,false,false,false,false,false,false,false,false,false,false,false,false,false,false,false] rfl rfl zk (fun _ _ _ h => h) (Or.inl ⟨by rfl, ?_⟩) ?_ ?_
              rotate_left; exact zp; rotate_left; exact zq
              refine pure_ (i := 2) (N := some 20) (v := ?_) (a' := ?_) #[true,true,true,false,false,false,false,false,false,false,false,false,false,false,false,false,false] rfl rfl zk (fun _ _ _ h => h) (Or.inl ⟨by rfl, ?_⟩) ?_ ?_
              rotate_left; exact zp; rotate_left; exact zq
              refine pure_ (i := 3) (N := some 21) (v := ?_) (a' := ?_) #[true,true,true,true,false,false,false,false,false,false,false,false,false,false,false,false,false] rfl rfl zk (fun _ _ _ h => h) (Or.inl ⟨by rfl, ?_⟩) ?_ ?_
              rotate_left; exact zp; rotate_left; exact zq
              refine pure_ (i := 4) (N := some 22) (v := undef) (a' := ?_) #[true,true,true,true,true,false,false,false,false,false,false,false,false,false,false,false,false] rfl rfl zk (fun _ _ _ h => h) (Or.inr ⟨by rfl, rfl⟩) ?_ ?_
              rotate_left
              · simp only [Act.put, List.setIfInBounds_toArray, List.set_cons_zero, List.set_cons_succ, i64_w, i32_w]
                rfl
              refine pure_ (i := 5) (N := some 23) (v := undef) (a' := ?_) #[true,true,true,true,true,true,false,false,false,false,false,false,false,false,false,false,false] rfl rfl zk (fun _ _ _ h => h) (Or.inr ⟨by rfl, rfl⟩) ?_ ?_
              rotate_left
              · simp only [Act.put, List.setIfInBounds_toArray, List.set_cons_zero, List.set_cons_succ, i64_w, i32_w]
                rfl
              refine pure_ (i := 6) (N := some 24) (v := undef) (a' := ?_) #[true,true,true,true,true,true,true,false,false,false,false,false,false,false,false,false,false] rfl rfl zk (fun _ _ _ h => h) (Or.inr ⟨by rfl, rfl⟩) ?_ ?_
              rotate_left
              · simp only [Act.put, List.setIfInBounds_toArray, List.set_cons_zero, List.set_cons_succ, i64_w, i32_w]
                rfl
              refine pure_ (i := 7) (N := some 25) (v := undef) (a' := ?_) #[true,true,true,true,true,true,true,true,false,false,false,false,false,false,false,false,false] rfl rfl zk (fun _ _ _ h => h) (Or.inr ⟨by rfl, rfl⟩) ?_ ?_
              rotate_left
              · simp only [Act.put, List.setIfInBounds_toArray, List.set_cons_zero, List.set_cons_succ, i64_w, i32_w]
                rfl
              refine pure_ (i := 8) (N := some 26) (v := undef) (a' := ?_) #[true,true,true,true,true,true,true,true,true,false,false,false,false,false,false,false,false] rfl rfl zk (fun _ _ _ h => h) (Or.inr ⟨by rfl, rfl⟩) ?_ ?_
              rotate_left
              · simp only [Act.put, List.setIfInBounds_toArray, List.set_cons_zero, List.set_cons_succ, i64_w, i32_w]
                rfl
              refine pure_ (i := 9) (N := some 27) (v := undef) (a' := ?_) #[true,true,true,true,true,true,true,true,true,true,false,false,false,false,false,false,false] rfl rfl zk (fun _ _ _ h => h) (Or.inr ⟨by rfl, rfl⟩) ?_ ?_
              rotate_left
              · simp only [Act.put, List.setIfInBounds_toArray, List.set_cons_zero, List.set_cons_succ, i64_w, i32_w]
                rfl
              refine pure_ (i := 10) (N := some 28) (v := undef) (a' := ?_) #[true,true,true,true,true,true,true,true,true,true,true,false,false,false,false,false,false] rfl rfl zk (fun _ _ _ h => h) (Or.inr ⟨by rfl, rfl⟩) ?_ ?_
              rotate_left
              · simp only [Act.put, List.setIfInBounds_toArray, List.set_cons_zero, List.set_cons_succ, i64_w, i32_w]
                rfl
              refine pure_ (i := 11) (N := some 29) (v := undef) (a' := ?_) #[true,true,true,true,true,true,true,true,true,true,true,true,false,false,false,false,false] rfl rfl zk (fun _ _ _ h => h) (Or.inr ⟨by rfl, rfl⟩) ?_ ?_
              rotate_left
              · simp only [Act.put, List.setIfInBounds_toArray, List.set_cons_zero, List.set_cons_succ, i64_w, i32_w]
                rfl
              refine pure_ (i := 12) (N := some 30) (v := undef) (a' := ?_) #[true,true,true,true,true,true,true,true,true,true,true,true,true,false,false,false,false] rfl rfl zk (fun _ _ _ h => h) (Or.inr ⟨by rfl, rfl⟩) ?_ ?_
              rotate_left
              · simp only [Act.put, List.setIfInBounds_toArray, List.set_cons_zero, List.set_cons_succ, i64_w, i32_w]
                rfl
              refine pure_ (i := 13) (N := some 31) (v := undef) (a' := ?_) #[true,true,true,true,true,true,true,true,true,true,true,true,true,true,false,false,false] rfl rfl zk (fun _ _ _ h => h) (Or.inr ⟨by rfl, rfl⟩) ?_ ?_
              rotate_left
              · simp only [Act.put, List.setIfInBounds_toArray, List.set_cons_zero, List.set_cons_succ, i64_w, i32_w]
                rfl
              refine one_ (i := 14) (N := some 32) #[true,true,true,true,true,true,true,true,true,true,true,true,true,true,true,false,false] rfl rfl zk (by decide) (fun K hK => ?_)
              rw [if_neg (by simp [Region.wanted, yielded])]
              refine hK.out _ _ trivial (fun hHeld => ?_)
              clear hK K
              refine norm_ (a' := ?_) ?_ ?_
              rotate_left
              · simp only [Act.put, List.setIfInBounds_toArray, List.set_cons_zero, List.set_cons_succ, i64_w, i32_w]
                rfl
              refine pure_ (i := 15) (N := some 33) (v := undef) (a' := ?_) #[true,true,true,true,true,true,true,true,true,true,true,true,true,true,true,true,false] rfl rfl zk (fun _ _ _ h => h) (Or.inr ⟨by rfl, rfl⟩) ?_ ?_
              rotate_left
              · simp only [Act.put, List.setIfInBounds_toArray, List.set_cons_zero, List.set_cons_succ, i64_w, i32_w]
                rfl
              refine pure_ (i := 16) (N := some 34) (v := ?_) (a' := ?_) #[true,true,true,true,true,true,true,true,true,true,true,true,true,true,true,true,true] rfl rfl zk (fun _ _ _ h => h) (Or.inl ⟨by rfl, ?_⟩) ?_ ?_
              rotate_left; exact zp; rotate_left; exact zq
              refine done_ zk ?_
              try go_wp2
              go_roundg k2
              case measure => have := HK1.out; have := HK2.out; omega
              case rel => exact ⟨l_2, (wrap64 (i_1 + 1)), zF, H', ⟨by have := HK1.out; have := HK2.out; omega⟩, HQ, HO1, HB1, HK1_⟩
      · rw [if_neg c12] at H
        have c12b0 : decide (i_1 < b) = false := decide_eq_false c12
        clear c12
        obtain rfl := Option.some.inj H
        clear H
        go_wp2
        go_end0
        exact ⟨rfl, HO.out, HB.out, HK.out⟩
end Go.Proofs.Ytgbapmmfhdphmaa.P
end
section
namespace Go.Proofs.Ytgbapmmfhdphmaa.P
open Go.RowKit Go.Proofs.YtgbapmmfhdphmaaW.PrintWords Go.Proofs.YtgbapmmfhdphmaaW.PrintLast Go.Proofs.YtgbapmmfhdphmaaW.PrintMore
attribute [local go_sem] max2_int min2_int max_two min_two max_three min_three max_four min_four   -- for this text's walks alone
set_option linter.unusedVariables false
set_option linter.unusedSimpArgs false
def impl_Tasks_many.f (l0_0 : List Int) : Option (Int) := (impl_length_int64.f l0_0).bind fun t102 => (some t102)
set_option maxHeartbeats 8000000 in
set_option maxRecDepth 100000 in
theorem impl_Tasks_many.calls (A0_0 : Option Addr) (c0_0 : Nat) (l0_0 : List Int) (r : Int) (w : World) (hr0_0 : Kd.C (Kd.int .i64) w A0_0 l0_0.length l0_0) (hc0_0 : l0_0.length ≤ c0_0) (h : impl_Tasks_many.f l0_0 = some r) :
    Calls Try.prog 60 #[.agg #[.slice A0_0 l0_0.length c0_0]] w fun e w' => e = .returned (.int .i64 r) ∧ Below w.heap.size w w' := by
 have hu26 := Try.underlying26
 have HR0_0 := Aside0.mk hr0_0
 have HC0_0 := Aside0.mk hc0_0
 clear hr0_0 hc0_0
 have HB := Aside0.mk (Below.refl w.heap.size w)
 have H : ((impl_length_int64.f l0_0).bind fun t102 => (some t102)) = some r := h
 clear h
 replace H := Option.bind_eq_some_iff.mp H
 obtain ⟨t102, A20, H⟩ := H
 replace H : (some t102) = some r := H
 have A2 := Aside0.mk A20
 clear A20
 obtain rfl := Option.some.inj H
 go_enter Try.func60, Try.ntmps60
 go_wp2_with (first | ((with_reducible refine gate_dst (N := 1) rfl ?_); refine box_event zr (N := 1) zr (cs := #[.slice A0_0 l0_0.length c0_0]) (t := 26) zg ?_; intro gb101 hg w3 hbox hb; have n_ := y4 (below_step (zB) hb) (hbox) ((zS hg : w.heap.size ≤ gb101)) ((zS hg : w.heap.size ≤ gb101)); clear HB; obtain ⟨HB, BK101, GW101, GE101⟩ := n_; clear hb hbox hg; have hcz4_0 := zc BK101.out; have hfz4_0 := blk_frozen BK101.out 0) | ((with_reducible refine gate_callee (f := 65) rfl ?_); refine goesL_ (some 5) rfl rfl Try.func65 zk rfl #[.slice A0_0 l0_0.length c0_0] rfl zA ?_; (with_reducible refine (impl_length_int64.calls _ _ l0_0 t102 _ ?side1 ?side2 A2.out).mono ?_); (case side1 => exact zC (Kd.C_below HR0_0.out HB.out)); (case side2 => exact HC0_0.out); rintro e w' ⟨rfl, ⟨nd, rfl⟩⟩; refine ⟨_, rfl, ?_⟩))
 go_ret
 exact ⟨zE, zB⟩
end Go.Proofs.Ytgbapmmfhdphmaa.P
end
section
namespace Go.Proofs.Ytgbapmmfhdphmaa.P
open Go.RowKit Go.Proofs.YtgbapmmfhdphmaaW.PrintWords Go.Proofs.YtgbapmmfhdphmaaW.PrintLast Go.Proofs.YtgbapmmfhdphmaaW.PrintMore
attribute [local go_sem] max2_int min2_int max_two min_two max_three min_three max_four min_four   -- for this text's walks alone
set_option linter.unusedVariables false
set_option linter.unusedSimpArgs false
set_option maxHeartbeats 8000000 in
set_option maxRecDepth 100000 in
theorem fvS_stable (k g : Nat) (lb : Array Value) (eg : ∀ args w, (callFunc g args).run Try.prog w = .ok (.enter g args) w) (cmp : Int → Int → Int) (Q_ : Int → Prop) (P0_ : Nat → Prop) (u : Value) (l : List Int) (n : Int) (hn : n < 20) (r : List Int) (w0 w : World) (hB : Below w0.heap.size w0 w) (ho0 : Kd.R (Kd.int .i64) 2 w w0.heap.size P0_ u l) (hq : ∀ x ∈ l, Q_ x)
    (hp : ∀ W : World, Kept w W P0_ → ∀ x y : Int, Q_ x → Q_ y → Calls Try.prog g (#[.int .i64 x, .int .i64 y] ++ lb) W fun e w' => e = .returned (.int .i64 (cmp x y)) ∧ Below W.heap.size W w') (h : insF.l0 cmp k l 0 n (wrap64 (0 + 1)) = some r) :
    Calls Try.prog 78 #[u, .int .i64 n, .func (.func g) #[] lb] w fun e w' => e = .returned (.tuple #[]) ∧ Kd.R (Kd.int .i64) 2 w' w0.heap.size P0_ u r ∧ Below w0.heap.size w0 w' ∧ Kept w w' P0_ := by
  have HC := Aside0.mk (fvS_insertion k g lb eg cmp Q_ P0_ u l 0 n r w0 w hB ho0 hq hp h)
  have d1 : decide ((20 : Int) ≤ n) = false := decide_eq_false (by omega)
  have d2 : decide ((20 : Int) < n) = false := decide_eq_false (by omega)
  clear hB ho0 hq hp h hn eg
  go_enter Try.func78, Try.ntmps78
  go_wp2
  go_loopg [7, 8] 1 (fun kq v7 v8 w' => v7 = .int .i64 0 ∧ v8 = .int .i64 20 ∧ w' = w)
  case atStart => exact ⟨rfl, rfl, rfl⟩
  case round =>
    obtain ⟨rfl, rfl, rfl⟩ := hrel
    go_wp2_with (go_at_call 80; refine HC.out.mono ?_; rintro e w4 ⟨rfl, hR, hb, hk⟩; have HR := Aside0.mk hR; have HB := Aside0.mk hb; have HK := Aside0.mk hk; clear hR hb hk)
    go_loopg [6, 7, 8, 9] 1 (fun kq v6 v7 v8 v9 w' => v6 = .int .i64 20 ∧ w' = w4)
    case atStart => exact ⟨rfl, rfl⟩
    case round =>
      obtain ⟨rfl, rfl⟩ := hrel
      go_wp2
      go_end0
      exact ⟨rfl, HR.out, HB.out, HK.out⟩
set_option maxHeartbeats 8000000 in
theorem fvS_sortStable (k g : Nat) (lb : Array Value) (eg : ∀ args w, (callFunc g args).run Try.prog w = .ok (.enter g args) w) (cmp : Int → Int → Int) (Q_ : Int → Prop) (P0_ : Nat → Prop) (A : Option Addr) (c : Nat) (l : List Int) (hn : (l.length : Int) < 20) (r : List Int) (w0 w : World) (hB : Below w0.heap.size w0 w) (ho0 : Kd.R (Kd.int .i64) 2 w w0.heap.size P0_ (.slice A l.length c) l) (hq : ∀ x ∈ l, Q_ x)
    (hp : ∀ W : World, Kept w W P0_ → ∀ x y : Int, Q_ x → Q_ y → Calls Try.prog g (#[.int .i64 x, .int .i64 y] ++ lb) W fun e w' => e = .returned (.int .i64 (cmp x y)) ∧ Below W.heap.size W w') (h : insF.l0 cmp k l 0 (l.length : Int) (wrap64 (0 + 1)) = some r) :
    Calls Try.prog 70 #[.slice A l.length c, .func (.func g) #[] lb] w fun e w' => e = .returned (.tuple #[]) ∧ Kd.R (Kd.int .i64) 2 w' w0.heap.size P0_ (.slice A l.length c) r ∧ Below w0.heap.size w0 w' ∧ Kept w w' P0_ := by
  have HC := Aside0.mk (fvS_stable k g lb eg cmp Q_ P0_ _ l _ hn r w0 w hB ho0 hq hp h)
  clear hB ho0 hq hp h hn eg
  generalize l.length = n at HC ⊢
  go_enter Try.func70, Try.ntmps70
  go_wp2_with (go_at_call 78; refine HC.out.mono ?_; rintro e w4 ⟨rfl, hR, hb, hk⟩; have HR := Aside0.mk hR; have HB := Aside0.mk hb; have HK := Aside0.mk hk; clear hR hb hk)
  go_end0
  exact ⟨rfl, HR.out, HB.out, HK.out⟩
def gapCmp (G : List Int) (x y : Int) : Int := wrap64 (rd G x - rd G y)
set_option maxHeartbeats 4000000 in
set_option maxRecDepth 100000 in
theorem fv_byGap_1 (x y : Int) (G : List Int) (A0 : Option Addr) (c0 : Nat) (B : Nat) (W : World) (hr0 : Kd.C (Kd.int .i64) W A0 G.length G) (hx : 0 ≤ x ∧ x < (G.length : Int)) (hy : 0 ≤ y ∧ y < (G.length : Int)) (hc : W.cell? ⟨B, 0, none⟩ = some (.slice A0 G.length c0)) :
    Calls Try.prog 71 (#[.int .i64 x, .int .i64 y] ++ #[.pointer (some ⟨B, 0, none⟩)]) W fun e w' => e = .returned (.int .i64 (gapCmp G x y)) ∧ Below W.heap.size W w' := by
  obtain ⟨ad, e1, hx0⟩ := Kd.at_int hr0 x hx.1 hx.2
  cases e1
  obtain ⟨ad1, e1, hy0⟩ := Kd.at_int hr0 y hy.1 hy.2
  obtain rfl : ad = ad1 := Option.some.inj e1
  show Calls Try.prog 71 #[.int .i64 x, .int .i64 y, .pointer (some ⟨B, 0, none⟩)] W _
  unfold gapCmp
  have p0 := eq_true hx.1
  have p1 := eq_true hx.2
  have p2 := eq_true hy.1
  have p3 := eq_true hy.2
  have hu46 := Try.underlying26
  clear hr0 hx hy e1
  generalize rd G x = gx at hx0 ⊢
  generalize rd G y = gy at hy0 ⊢
  go_enter Try.func71, Try.ntmps71
  try go_wp2
  refine start_ (n := 12) (S := fun w' => w'.cell? ⟨B, 0, none⟩ = some (.slice (some ad) G.length c0) ∧ w'.cell? (ad.add x.toNat) = some (.int .i64 gx) ∧ w'.cell? (ad.add y.toNat) = some (.int .i64 gy)) (ds := []) #[false,false,false,false,false,false,false,false,false,false,false,false] zk rfl rfl ⟨hc, hx0, hy0⟩ (fun hHeld => ?_)
  have HB := Aside0.mk (below_drew1 (Below.refl W.heap.size W))
  generalize W.drew = w1 at HB hHeld ⊢
  refine pure_ (i := 0) (N := some 6) (v := ?_) (a' := ?_) #[true,false,false,false,false,false,false,false,false,false,false,false] rfl rfl zk (fun _ _ _ h => h) (Or.inl ⟨by rfl, ?_⟩) ?_ ?_
  rotate_left; exact zp; rotate_left; exact zq
  refine take_ (i := 1) (N := some 7) (v := ?_) (a' := ?_) #[true,true,false,false,false,false,false,false,false,false,false,false] rfl rfl zk (fun _ _ _ h => h) (Or.inl ⟨by rfl, ?_⟩) hHeld ?_ ?_
  rotate_left
  · rintro w' ⟨s0, s1, s2⟩
    go_simp
    with_reducible rfl
  rotate_left
  · simp only [Act.put, List.setIfInBounds_toArray, List.set_cons_zero, List.set_cons_succ, i64_w, i32_w]
    rfl
  refine pure_ (i := 2) (N := some 8) (v := ?_) (a' := ?_) #[true,true,true,false,false,false,false,false,false,false,false,false] rfl rfl zk (fun _ _ _ h => h) (Or.inl ⟨by rfl, ?_⟩) ?_ ?_
  rotate_left; exact zp; rotate_left; exact zq
  refine pure_ (i := 3) (N := some 9) (v := ?_) (a' := ?_) #[true,true,true,true,false,false,false,false,false,false,false,false] rfl rfl zk (fun _ _ _ h => h) (Or.inl ⟨by rfl, ?_⟩) ?_ ?_
  rotate_left; exact zp; rotate_left; exact zq
  refine take_ (i := 4) (N := some 10) (v := ?_) (a' := ?_) #[true,true,true,true,true,false,false,false,false,false,false,false] rfl rfl zk (fun _ _ _ h => h) (Or.inl ⟨by rfl, ?_⟩) hHeld ?_ ?_
  rotate_left
  · rintro w' ⟨s0, s1, s2⟩
    go_simp
    with_reducible rfl
  rotate_left
  · simp only [Act.put, List.setIfInBounds_toArray, List.set_cons_zero, List.set_cons_succ, i64_w, i32_w]
    rfl
  refine pure_ (i := 5) (N := some 11) (v := ?_) (a' := ?_) #[true,true,true,true,true,true,false,false,false,false,false,false] rfl rfl zk (fun _ _ _ h => h) (Or.inl ⟨by rfl, ?_⟩) ?_ ?_
  rotate_left; exact zp; rotate_left; exact zq
  refine take_ (i := 6) (N := some 12) (v := ?_) (a' := ?_) #[true,true,true,true,true,true,true,false,false,false,false,false] rfl rfl zk (fun _ _ _ h => h) (Or.inl ⟨by rfl, ?_⟩) hHeld ?_ ?_
  rotate_left
  · rintro w' ⟨s0, s1, s2⟩
    go_simp
    with_reducible rfl
  rotate_left
  · simp only [Act.put, List.setIfInBounds_toArray, List.set_cons_zero, List.set_cons_succ, i64_w, i32_w]
    rfl
  refine pure_ (i := 7) (N := some 13) (v := ?_) (a' := ?_) #[true,true,true,true,true,true,true,true,false,false,false,false] rfl rfl zk (fun _ _ _ h => h) (Or.inl ⟨by rfl, ?_⟩) ?_ ?_
  rotate_left; exact zp; rotate_left; exact zq
  refine pure_ (i := 8) (N := some 14) (v := ?_) (a' := ?_) #[true,true,true,true,true,true,true,true,true,false,false,false] rfl rfl zk (fun _ _ _ h => h) (Or.inl ⟨by rfl, ?_⟩) ?_ ?_
  rotate_left; exact zp; rotate_left; exact zq
  refine take_ (i := 9) (N := some 15) (v := ?_) (a' := ?_) #[true,true,true,true,true,true,true,true,true,true,false,false] rfl rfl zk (fun _ _ _ h => h) (Or.inl ⟨by rfl, ?_⟩) hHeld ?_ ?_
  rotate_left
  · rintro w' ⟨s0, s1, s2⟩
    go_simp
    with_reducible rfl
  rotate_left
  · simp only [Act.put, List.setIfInBounds_toArray, List.set_cons_zero, List.set_cons_succ, i64_w, i32_w]
    rfl
  refine pure_ (i := 10) (N := some 16) (v := ?_) (a' := ?_) #[true,true,true,true,true,true,true,true,true,true,true,false] rfl rfl zk (fun _ _ _ h => h) (Or.inl ⟨by rfl, ?_⟩) ?_ ?_
  rotate_left; exact zp; rotate_left; exact zq
  refine pure_ (i := 11) (N := some 5) (v := ?_) (a' := ?_) #[true,true,true,true,true,true,true,true,true,true,true,true] rfl rfl zk (fun _ _ _ h => h) (Or.inl ⟨by rfl, ?_⟩) ?_ ?_
  rotate_left; exact zp; rotate_left; exact zq
  refine done_ zk ?_
  try go_wp2
  go_ret
  exact ⟨rfl, HB.out⟩
def impl_Tasks_byGap.l0 : Nat → List Int → Int → List Int → Int → Option (List Int)
  | 0, _, _, _, _ => none
  | k + 1, G, all, out, i => if i < all then (if out.length < 17592186044416 then (impl_Tasks_byGap.l0 k G all (out ++ [i]) (wrap64 (i + 1))) else (none)) else (if ((out.length : Int) < 20 ∧ ∀ x ∈ out, 0 ≤ x ∧ x < (G.length : Int)) then (insF.l0 (gapCmp G) k out 0 (out.length : Int) (wrap64 (0 + 1))) else (none))
def impl_Tasks_byGap.f (k : Nat) (l0_0 : List Int) : Option (List Int) := (impl_Tasks_many.f l0_0).bind fun t => (impl_Tasks_byGap.l0 k l0_0 t [] 0)
theorem impl_Tasks_byGap.mono_l : ∀ k, ∀ y0 y1 y2 y3, LeO (impl_Tasks_byGap.l0 k y0 y1 y2 y3) (impl_Tasks_byGap.l0 (k + 1) y0 y1 y2 y3)
  | 0 => fun _ _ _ _ r h => by simp [impl_Tasks_byGap.l0] at h
  | k + 1 => by
    have ih0 := impl_Tasks_byGap.mono_l k
    intro y0 y1 y2 y3
    obtain ⟨is0, _⟩ := insF.mono_l (gapCmp y0) k
    unfold impl_Tasks_byGap.l0
    repeat' first | (with_reducible exact ih0 _ _ _ _) | (with_reducible exact is0 _ _ _ _) | (with_reducible exact LeO.refl _) | (with_reducible exact LeO.none _) | (with_reducible refine LeO.ite ?_ ?_)
theorem impl_Tasks_byGap.mono : ∀ a0 k, LeO (impl_Tasks_byGap.f k a0) (impl_Tasks_byGap.f (k + 1) a0) := by
  intro a0 k
  unfold impl_Tasks_byGap.f
  exact LeO.bind (LeO.refl _) (fun _ => impl_Tasks_byGap.mono_l k _ _ _ _)
theorem infoB : (Try.prog.info? 2).map (fun i => (i.zero, i.size, i.bytes)) = some (some (.int .i64 0), 1, 8) := by kernel_rfl
set_option maxHeartbeats 8000000 in
set_option maxRecDepth 100000 in
theorem impl_Tasks_byGap.calls (k : Nat) (A0_0 : Option Addr) (c0_0 : Nat) (l0_0 : List Int) (r : List Int) (w : World) (hr0_0 : Kd.C (Kd.int .i64) w A0_0 l0_0.length l0_0) (hc0_0 : l0_0.length ≤ c0_0) (h : impl_Tasks_byGap.f k l0_0 = some r) :
    Calls Try.prog 54 #[.agg #[.slice A0_0 l0_0.length c0_0]] w fun e w' => ∃ v0_ : Value, e = .returned (v0_) ∧ Kd.R (Kd.int .i64) 2 w' w.heap.size (fun _ => True) v0_ r ∧ Below w.heap.size w w' := by
  obtain ⟨t, e1, h⟩ := Option.bind_eq_some_iff.mp h
  have hu46 := Try.underlying26
  have eg : ∀ args w, (callFunc 71 args).run Try.prog w = .ok (.enter 71 args) w := enters_of Try.func71 zk rfl
  have HR0 := Aside0.mk hr0_0
  have HC0 := Aside0.mk hc0_0
  have E1 := Aside0.mk e1
  have EG := Aside0.mk eg
  have H' := Aside0.mk h
  have HBW := Aside0.mk (below_alloc (Below.refl w.heap.size w) (.cells #[.slice A0_0 l0_0.length c0_0] 26))
  have HSZ := Aside0.mk (show (w.alloc (.cells #[.slice A0_0 l0_0.length c0_0] 26)).heap.size = w.heap.size + 1 by simp)
  have HX := Aside0.mk (blk_new w (.cells #[.slice A0_0 l0_0.length c0_0] 26))
  have HB := Aside0.mk (Below.refl (w.alloc (.cells #[.slice A0_0 l0_0.length c0_0] 26)).heap.size (w.alloc (.cells #[.slice A0_0 l0_0.length c0_0] 26)))
  have hq := blk_cell HX.out 0
  (try simp only [List.getElem?_toArray, List.getElem?_cons_zero] at hq)
  clear hr0_0 hc0_0 e1 h eg
  go_enter Try.func54, Try.ntmps54
  go_wp2_with (go_at_call 60; go_loud (refine (impl_Tasks_many.calls A0_0 c0_0 l0_0 t _ (Kd.C_below HR0.out HBW.out) HC0.out E1.out).mono ?_; rintro e w2 ⟨rfl, hb⟩; have hb2 : Below (w.alloc (.cells #[.slice A0_0 l0_0.length c0_0] 26)).heap.size (w.alloc (.cells #[.slice A0_0 l0_0.length c0_0] 26)) w2 := (by first | exact hb | (obtain ⟨n0, rfl⟩ := hb; exact pw_below_drewN (Below.refl _ _) _)); have n_ := y2 (blk_below HX.out hb2) hb2; clear HX HB hb hb2 hq; obtain ⟨HX, HB⟩ := n_))
  go_loopg [3, 7] k (fun kq v3 v7 w' => ∃ (out_1 : List Int) (i_1 : Int), v7 = .int .i64 i_1 ∧ Aside0 (impl_Tasks_byGap.l0 kq l0_0 t out_1 i_1 = some r) ∧ Aside0 (kq ≤ k) ∧ Aside0 (Kd.R (Kd.int .i64) 2 w' (w.alloc (.cells #[.slice A0_0 l0_0.length c0_0] 26)).heap.size (fun _ => True) v3 out_1) ∧ Aside0 (w'.heap[w.heap.size]? = some (.cells #[.slice A0_0 l0_0.length c0_0] 26 (0, 0))) ∧ Aside0 (Below (w.alloc (.cells #[.slice A0_0 l0_0.length c0_0] 26)).heap.size (w.alloc (.cells #[.slice A0_0 l0_0.length c0_0] 26)) w'))
  case atStart => exact ⟨[], 0, rfl, H', ⟨Nat.le_refl _⟩, ⟨Kd.R_nil _ _ _ _ _⟩, HX, HB⟩
  case round =>
    clear H' HX HB
    obtain ⟨out_1, i_1, rfl, HA, HK1, HO, HX, HB⟩ := hrel
    cases gk with
    | zero => exact absurd HA.out (by simp [impl_Tasks_byGap.l0])
    | succ k1 =>
      have H := HA.out
      clear HA
      simp only [impl_Tasks_byGap.l0] at H
      by_cases c12 : i_1 < t
      · rw [if_pos c12] at H
        have c12b0 : decide (i_1 < t) = true := decide_eq_true c12
        by_cases c13 : out_1.length < 17592186044416
        · rw [if_pos c13] at H
          have LM := Aside0.mk c13
          have H' := Aside0.mk H
          clear H c12 c13
          go_wp2_with (((with_reducible refine gate_builtin (b := .append) (xs := #[.tmp 10, .tmp 12]) rfl ?_); at_builtin; go_loud (refine Kd.R_append (Kd.int .i64) (w0 := (w.alloc (.cells #[.slice A0_0 l0_0.length c0_0] 26))) (w.alloc (.cells #[.slice A0_0 l0_0.length c0_0] 26)).heap.size rfl (.tmp 10) (.tmp 12) 24 2 (.int .i64 0) 8 rfl Try.underlying24 infoB rfl (by decide) (by omega) u3 out_1 i_1 [.int .i64 i_1] (fun _ => True) (fun _ => False) rfl rfl ?aP (fun _ hk => hk.elim) ?aF ?aO ?aB ?aS ?aL ?_; (case aP => exact rfl); (case aB => exact (zB)); (case aF => exact (fun _ _ => trivial)); (case aO => exact (zR HO.out)); (case aS => exact (below_size (zB))); (case aL => have := LM.out; omega); intro v113 w25 ho hb hg hat; have n_ := y3 hb ho (show w25.heap[w.heap.size]? = some (.cells #[.slice A0_0 l0_0.length c0_0] 26 (0, 0)) from (hg.block _ (by first | exact blk_lt HX.out | exact blk_lt (blk_alloc HX.out _)) (fun he => by first | exact (Kd.R_ne HO.out HX.out (by decide)) he | exact (Kd.R_ne (Kd.R_alloc HO.out _) (blk_alloc HX.out _) (by decide)) he)).trans (by first | exact HX.out | exact blk_alloc HX.out _)); clear HB HX HO ho hb hg hat; obtain ⟨HB, HO, HX⟩ := n_)))
          go_roundg k1
          case measure => have := HK1.out; omega
          case rel => exact ⟨_, (wrap64 (i_1 + 1)), zF, H', ⟨by have := HK1.out; omega⟩, HO, HX, HB⟩
        · rw [if_neg c13] at H
          exact absurd H (by simp)
      · rw [if_neg c12] at H
        have c12b0 : decide (i_1 < t) = false := decide_eq_false c12
        by_cases c14 : ((out_1.length : Int) < 20 ∧ ∀ x ∈ out_1, 0 ≤ x ∧ x < (l0_0.length : Int))
        · rw [if_pos c14] at H
          obtain ⟨Ao, co, eo⟩ := Kd.R_slice HO.out
          subst eo
          have hbt := below_step HBW.out HB.out
          have HS := Aside0.mk (fvS_sortStable k1 71 #[.pointer (some ⟨w.heap.size, 0, none⟩)] EG.out (gapCmp l0_0) (fun x => 0 ≤ x ∧ x < (l0_0.length : Int)) (fun k_ => (w.alloc (.cells #[.slice A0_0 l0_0.length c0_0] 26)).heap.size ≤ k_) Ao co out_1 c14.1 r (w.alloc (.cells #[.slice A0_0 l0_0.length c0_0] 26)) wr HB.out (Kd.R_mono (Kd.R_bound HO.out) (fun k_ hk => hk.2.1)) c14.2
            (fun W' hk x y hx hy => fv_byGap_1 x y l0_0 A0_0 c0_0 w.heap.size W' (Kd.C_kept_came (S := fun k_ => (w.alloc (.cells #[.slice A0_0 l0_0.length c0_0] 26)).heap.size ≤ k_) (Kd.heap_int .i64) HR0.out hbt (fun k_ h_ => by have := HSZ.out; omega) W' hk) hx hy (by have h2 := blk_cell (blk_kept HX.out hk (by have := HSZ.out; show ¬ (w.alloc (.cells #[.slice A0_0 l0_0.length c0_0] 26)).heap.size ≤ w.heap.size; omega)) 0; simpa using h2)) H)
          clear H c12 c14 hbt
          go_wp2_with (go_at_call 70; go_loud (refine HS.out.mono ?_; rintro e w4 ⟨rfl, hR, hb, hk⟩; have HR := Aside0.mk hR; have HB4 := Aside0.mk (below_step HBW.out hb); clear hR hb hk))
          go_ret
          exact ⟨_, rfl, Kd.R_mono (Kd.R_lower HR.out HBW.out.size) (fun _ _ => trivial), HB4.out⟩
        · rw [if_neg c14] at H
          exact absurd H (by simp)
end Go.Proofs.Ytgbapmmfhdphmaa.P
end
section
namespace Go.Proofs.Ytgbapmmfhdphmaa.P
open Go.RowKit Go.Proofs.YtgbapmmfhdphmaaW.PrintWords Go.Proofs.YtgbapmmfhdphmaaW.PrintLast Go.Proofs.YtgbapmmfhdphmaaW.PrintMore
attribute [local go_sem] max2_int min2_int max_two min_two max_three min_three max_four min_four   -- for this text's walks alone
set_option linter.unusedVariables false
set_option linter.unusedSimpArgs false
def slices_Max_Sint64_int64.l0 : Nat → List Int → Int → Int → Option (Int)
  | 0, _, _, _ => none
  | k + 1, x0, x3, x4 => if x4 < (x0.length : Int) then (if 0 ≤ x4 then (slices_Max_Sint64_int64.l0 k x0 (mx x3 (rd x0 x4)) (wrap64 (x4 + 1))) else (none)) else (some x3)
def slices_Max_Sint64_int64.f (k : Nat) (l0 : List Int) : Option (Int) := if (l0.length : Int) < 1 then (none) else (if 0 < (l0.length : Int) then (slices_Max_Sint64_int64.l0 k l0 (rd l0 0) 1) else (none))
theorem slices_Max_Sint64_int64.mono_l : ∀ k, (∀ y0 y1 y2, LeO (slices_Max_Sint64_int64.l0 k y0 y1 y2) (slices_Max_Sint64_int64.l0 (k + 1) y0 y1 y2))
  | 0 => fun _ _ _ r h => by simp [slices_Max_Sint64_int64.l0] at h
  | k + 1 => by
    have ih0 := slices_Max_Sint64_int64.mono_l k
    · intro y0 y1 y2
      unfold slices_Max_Sint64_int64.l0
      repeat' first | (with_reducible exact ih0 _ _ _) | (with_reducible exact LeO.refl _) | (with_reducible exact LeO.none _) | (with_reducible refine LeO.ite ?_ ?_) | (with_reducible refine LeO.bind ?_ (fun _ => ?_)) | exact ih0 _ _ _ | exact LeO.none _ | refine LeO.ite ?_ ?_ | refine LeO.bind ?_ (fun _ => ?_)
theorem slices_Max_Sint64_int64.mono : ∀ a0 k, LeO (slices_Max_Sint64_int64.f k a0) (slices_Max_Sint64_int64.f (k + 1) a0) := by
  intro a0 k
  have ih0 := slices_Max_Sint64_int64.mono_l k
  unfold slices_Max_Sint64_int64.f
  repeat' first | (with_reducible exact ih0 _ _ _) | (with_reducible exact LeO.refl _) | (with_reducible exact LeO.none _) | (with_reducible refine LeO.ite ?_ ?_) | (with_reducible refine LeO.bind ?_ (fun _ => ?_)) | exact ih0 _ _ _ | exact LeO.none _ | refine LeO.ite ?_ ?_ | refine LeO.bind ?_ (fun _ => ?_)
set_option maxHeartbeats 8000000 in
set_option maxRecDepth 100000 in
theorem slices_Max_Sint64_int64.calls (k : Nat) (A0 : Option Addr) (c0 : Nat) (l0 : List Int) (r : Int) (w : World) (hr0 : Kd.C (Kd.int .i64) w A0 l0.length l0) (hc0 : l0.length ≤ c0) (h : slices_Max_Sint64_int64.f k l0 = some r) :
    Calls Try.prog 53 #[.slice A0 l0.length c0] w fun e w' => e = .returned (.int .i64 r) ∧ Below w.heap.size w w' := by
 have HR0 := Aside0.mk hr0
 have HC0 := Aside0.mk hc0
 clear hr0 hc0
 have HB := Aside0.mk (Below.refl w.heap.size w)
 have H : (if (l0.length : Int) < 1 then (none) else (if 0 < (l0.length : Int) then (slices_Max_Sint64_int64.l0 k l0 (rd l0 0) 1) else (none))) = some r := h
 clear h
 by_cases c2 : (l0.length : Int) < 1
 ·
  rw [if_pos c2] at H
  exact absurd H (by simp)
 rw [if_neg c2] at H
 have c2b0 : decide ((l0.length : Int) < 1) = false := decide_eq_false c2
 have c2b1 : decide (l0.length < 1) = false := decide_eq_false (by omega)
 clear c2
 by_cases c3 : 0 < (l0.length : Int)
 case neg => rw [if_neg c3] at H; exact absurd H (by simp)
 rw [if_pos c3] at H
 have c3b0 : decide (0 < (l0.length : Int)) = true := decide_eq_true c3
 have c3b1 : decide (0 < l0.length) = true := decide_eq_true (by omega)
 clear c3
 have H' := Aside0.mk H
 clear H
 have p101 : 0 ≤ (0 : Int) := (by omega)
 have q101 : 0 < (l0.length : Int) := zD
 obtain ⟨ad101, e101, hx101_0⟩ := Kd.at_int HR0.out 0 p101 q101
 cases e101
 have qi101 : (0 < l0.length) = True := eq_true (by omega)
 (try rw [show ((0 : Int)).toNat = 0 from rfl] at hx101_0)
 (try rw [Addr.add_zero'] at hx101_0)
 replace p101 := eq_true p101
 replace q101 := eq_true q101
 go_enter Try.func53, Try.ntmps53
 go_wp2
 go_loopg [3, 4] k (fun kq v3 v4 w' => ∃ (x3_1 : Int) (x4_1 : Int), v3 = .int .i64 x3_1 ∧ v4 = .int .i64 x4_1 ∧ Aside0 (slices_Max_Sint64_int64.l0 kq l0 x3_1 x4_1 = some r) ∧ Aside0 (kq ≤ k) ∧ Aside0 (Below w.heap.size w w'))
 case atStart => exact ⟨(rd l0 0), (1), zF, zF, H', ⟨Nat.le_refl _⟩, ⟨zB⟩⟩
 clear H'
 try clear c2
 try clear c2b0
 try clear c2b1
 try clear c3
 try clear c3b0
 try clear c3b1
 try clear hx101_0
 try clear p101
 try clear q101
 obtain ⟨x3_1, x4_1, rfl, rfl, HA, HK1, HB⟩ := hrel
 cases gk with
 | zero => exact absurd HA.out (by simp [slices_Max_Sint64_int64.l0])
 | succ k1 =>
   have H := HA.out
   clear HA
   simp only [slices_Max_Sint64_int64.l0] at H
   by_cases c4 : x4_1 < (l0.length : Int)
   · rw [if_pos c4] at H
     have c4b0 : decide (x4_1 < (l0.length : Int)) = true := decide_eq_true c4
     clear c4
     by_cases c5 : 0 ≤ x4_1
     · rw [if_pos c5] at H
       have c5b0 : decide (0 ≤ x4_1) = true := decide_eq_true c5
       clear c5
       obtain ⟨ji6, hji6⟩ : ∃ j_ : Int, (mx x3_1 (rd l0 x4_1)) = j_ := ⟨_, rfl⟩
       replace H : (slices_Max_Sint64_int64.l0 k1 l0 ji6 (wrap64 (x4_1 + 1))) = some r := by first | (rw [hji6] at H; exact H) | (simp only [hji6] at H ⊢; exact H)
       have hji6_ : (if x3_1 < (rd l0 x4_1) then (rd l0 x4_1) else x3_1) = ji6 := hji6
       have H' := Aside0.mk H
       clear H
       have p102 : 0 ≤ (x4_1 : Int) := zD
       have q102 : x4_1 < (l0.length : Int) := zD
       obtain ⟨ad102, e102, hx102_0⟩ := Kd.at_int HR0.out x4_1 p102 q102
       obtain rfl : ad101 = ad102 := (by injection e102)
       replace hx102_0 := (HB.out.cell (World.block_lt_of_cell? w _ hx102_0)).trans hx102_0
       replace p102 := eq_true p102
       replace q102 := eq_true q102
       go_wp2
       go_roundg k1
       case measure => have := HK1.out; omega
       case rel => exact ⟨(ji6), (wrap64 (x4_1 + 1)), (by first | rfl | (simp; done) | (simp only [← hji6] <;> (first | rfl | simp)) | (simp [*]; done)), zF, H', ⟨by have := HK1.out; omega⟩, ⟨zB⟩⟩
     · rw [if_neg c5] at H
       exact absurd H (by simp)
   · rw [if_neg c4] at H
     have c4b0 : decide (x4_1 < (l0.length : Int)) = false := decide_eq_false c4
     clear c4
     obtain rfl := Option.some.inj H
     go_wp2
     go_ret
     exact ⟨zE, zB⟩
end Go.Proofs.Ytgbapmmfhdphmaa.P
end
section
namespace Go.Proofs.Ytgbapmmfhdphmaa.P
open Go.RowKit Go.Proofs.YtgbapmmfhdphmaaW.PrintWords Go.Proofs.YtgbapmmfhdphmaaW.PrintLast Go.Proofs.YtgbapmmfhdphmaaW.PrintMore
attribute [local go_sem] max2_int min2_int max_two min_two max_three min_three max_four min_four   -- for this text's walks alone
set_option linter.unusedVariables false
set_option linter.unusedSimpArgs false
def slices_Index_Sint64_int64.l0 : Nat → List Int → Int → Int → Int → Option (Int)
  | 0, _, _, _, _ => none
  | k + 1, x0, x1, x7, x8 => if x8 < x7 then (if 0 ≤ x8 then (if x8 < (x0.length : Int) then (if x1 = (rd x0 x8) then (some x8) else (slices_Index_Sint64_int64.l0 k x0 x1 x7 (wrap64 (x8 + 1)))) else (none)) else (none)) else (some (-1))
def slices_Index_Sint64_int64.f (k : Nat) (l0 : List Int) (a1 : Int) : Option (Int) := slices_Index_Sint64_int64.l0 k l0 a1 (l0.length : Int) 0
theorem slices_Index_Sint64_int64.mono_l : ∀ k, (∀ y0 y1 y2 y3, LeO (slices_Index_Sint64_int64.l0 k y0 y1 y2 y3) (slices_Index_Sint64_int64.l0 (k + 1) y0 y1 y2 y3))
  | 0 => fun _ _ _ _ r h => by simp [slices_Index_Sint64_int64.l0] at h
  | k + 1 => by
    have ih0 := slices_Index_Sint64_int64.mono_l k
    · intro y0 y1 y2 y3
      unfold slices_Index_Sint64_int64.l0
      repeat' first | (with_reducible exact ih0 _ _ _ _) | (with_reducible exact LeO.refl _) | (with_reducible exact LeO.none _) | (with_reducible refine LeO.ite ?_ ?_) | (with_reducible refine LeO.bind ?_ (fun _ => ?_)) | exact ih0 _ _ _ _ | exact LeO.none _ | refine LeO.ite ?_ ?_ | refine LeO.bind ?_ (fun _ => ?_)
theorem slices_Index_Sint64_int64.mono : ∀ a0 a1 k, LeO (slices_Index_Sint64_int64.f k a0 a1) (slices_Index_Sint64_int64.f (k + 1) a0 a1) := by
  intro a0 a1 k
  have ih0 := slices_Index_Sint64_int64.mono_l k
  unfold slices_Index_Sint64_int64.f
  repeat' first | (with_reducible exact ih0 _ _ _ _) | (with_reducible exact LeO.refl _) | (with_reducible exact LeO.none _) | (with_reducible refine LeO.ite ?_ ?_) | (with_reducible refine LeO.bind ?_ (fun _ => ?_)) | exact ih0 _ _ _ _ | exact LeO.none _ | refine LeO.ite ?_ ?_ | refine LeO.bind ?_ (fun _ => ?_)
set_option maxHeartbeats 8000000 in
set_option maxRecDepth 100000 in
theorem slices_Index_Sint64_int64.calls (k : Nat) (A0 : Option Addr) (c0 : Nat) (l0 : List Int) (a1 : Int) (r : Int) (w : World) (hr0 : Kd.C (Kd.int .i64) w A0 l0.length l0) (hc0 : l0.length ≤ c0) (h : slices_Index_Sint64_int64.f k l0 a1 = some r) :
    Calls Try.prog 55 #[.slice A0 l0.length c0, .int .i64 a1] w fun e w' => e = .returned (.int .i64 r) ∧ Drawn0 w w' := by
 have HR0 := Aside0.mk hr0
 have HC0 := Aside0.mk hc0
 clear hr0 hc0
 have H : (slices_Index_Sint64_int64.l0 k l0 a1 (l0.length : Int) 0) = some r := h
 clear h
 have H' := Aside0.mk H
 clear H
 go_enter Try.func55, Try.ntmps55
 go_wp2
 go_loopg [8] k (fun kq v8 w' => ∃ (x8_1 : Int), v8 = .int .i64 x8_1 ∧ Aside0 (slices_Index_Sint64_int64.l0 kq l0 a1 (l0.length : Int) x8_1 = some r) ∧ Aside0 (kq ≤ k) ∧ Drawn0 w w')
 case atStart => exact ⟨(0), zF, H', ⟨Nat.le_refl _⟩, by repeat (first | exact Drawn0.refl _ | apply Drawn0.step)⟩
 clear H'
 obtain ⟨x8_1, rfl, HA, HK1, ⟨m1, rfl⟩⟩ := hrel
 cases gk with
 | zero => exact absurd HA.out (by simp [slices_Index_Sint64_int64.l0])
 | succ k1 =>
   have H := HA.out
   clear HA
   simp only [slices_Index_Sint64_int64.l0] at H
   by_cases c3 : x8_1 < (l0.length : Int)
   · rw [if_pos c3] at H
     have c3b0 : decide (x8_1 < (l0.length : Int)) = true := decide_eq_true c3
     clear c3
     by_cases c4 : 0 ≤ x8_1
     · rw [if_pos c4] at H
       have c4b0 : decide (0 ≤ x8_1) = true := decide_eq_true c4
       clear c4
       by_cases c5 : x8_1 < (l0.length : Int)
       · rw [if_pos c5] at H
         have c5b0 : decide (x8_1 < (l0.length : Int)) = true := decide_eq_true c5
         clear c5
         by_cases c6 : a1 = (rd l0 x8_1)
         · rw [if_pos c6] at H
           have c6b0 : (a1 == (rd l0 x8_1)) = true := beq_iff_eq.mpr c6
           have c6b1 : (a1 != (rd l0 x8_1)) = false := bne_eq_false_iff_eq.mpr c6
           clear c6
           obtain rfl := Option.some.inj H
           have p101 : 0 ≤ (x8_1 : Int) := zD
           have q101 : x8_1 < (l0.length : Int) := zD
           obtain ⟨ad101, e101, hx101_0⟩ := Kd.at_int HR0.out x8_1 p101 q101
           cases e101
           replace p101 := eq_true p101
           replace q101 := eq_true q101
           go_wp2
           go_ret
           exact ⟨by first | rfl | (simp; done) | (simp [*]; done), by repeat (first | exact Drawn0.refl _ | apply Drawn0.step)⟩
         · rw [if_neg c6] at H
           have c6b0 : (a1 == (rd l0 x8_1)) = false := beq_eq_false_iff_ne.mpr c6
           have c6b1 : (a1 != (rd l0 x8_1)) = true := bne_iff_ne.mpr c6
           have H' := Aside0.mk H
           clear H
           have p101 : 0 ≤ (x8_1 : Int) := zD
           have q101 : x8_1 < (l0.length : Int) := zD
           obtain ⟨ad101, e101, hx101_0⟩ := Kd.at_int HR0.out x8_1 p101 q101
           cases e101
           replace p101 := eq_true p101
           replace q101 := eq_true q101
           go_wp2
           go_roundg k1
           case measure => have := HK1.out; omega
           case rel => exact ⟨(wrap64 (x8_1 + 1)), zF, H', ⟨by have := HK1.out; omega⟩, by repeat (first | exact Drawn0.refl _ | apply Drawn0.step)⟩
       · rw [if_neg c5] at H
         exact absurd H (by simp)
     · rw [if_neg c4] at H
       exact absurd H (by simp)
   · rw [if_neg c3] at H
     have c3b0 : decide (x8_1 < (l0.length : Int)) = false := decide_eq_false c3
     clear c3
     obtain rfl := Option.some.inj H
     go_wp2
     go_ret
     exact ⟨by first | rfl | (simp; done) | (simp [*]; done), by repeat (first | exact Drawn0.refl _ | apply Drawn0.step)⟩
end Go.Proofs.Ytgbapmmfhdphmaa.P
end
section
namespace Go.Proofs.Ytgbapmmfhdphmaa.P
open Go.RowKit Go.Proofs.YtgbapmmfhdphmaaW.PrintWords Go.Proofs.YtgbapmmfhdphmaaW.PrintLast Go.Proofs.YtgbapmmfhdphmaaW.PrintMore
attribute [local go_sem] max2_int min2_int max_two min_two max_three min_three max_four min_four   -- for this text's walks alone
set_option linter.unusedVariables false
set_option linter.unusedSimpArgs false
mutual
def impl_Tasks_harmonic.l0 : Nat → List Int → List Int → Int → Int → List Int → Option (List Int)
  | 0, _, _, _, _, _ => none
  | k + 1, x3, x13, x14, x15, x102000 => if x15 < x14 then (if 0 ≤ x15 then (if x15 < (x13.length : Int) then ((slices_Index_Sint64_int64.f k x3 (-1)).bind fun t113 => (impl_Tasks_harmonic.l1 k x3 (rd x13 x15) t113 x13 x14 x15 x102000)) else (none)) else (none)) else (some x3)
def impl_Tasks_harmonic.l1 : Nat → List Int → Int → Int → List Int → Int → Int → List Int → Option (List Int)
  | 0, _, _, _, _, _, _, _ => none
  | k + 1, x3, x5, x6, x13, x14, x15, x102000 => if x6 < (x3.length : Int) then (if 0 ≤ x6 then (if 0 ≤ x5 then (if x5 < (x102000.length : Int) then (impl_Tasks_harmonic.l1 k (x3.set (x6 : Int).toNat x5) x5 (wrap64 (x6 + (rd x102000 x5))) x13 x14 x15 x102000) else (none)) else (none)) else (none)) else (impl_Tasks_harmonic.l0 k x3 x13 x14 (wrap64 (x15 + 1)) x102000)
end
def impl_Tasks_harmonic.f (k : Nat) (l0_0 : List Int) : Option (List Int) := (slices_Max_Sint64_int64.f k l0_0).bind fun t105 => ((slices_Repeat_Sint64_int64.f (([(-1)] : List Int)) t105).bind fun t106 => ((impl_Tasks_byGap.f k l0_0).bind fun t109 => (impl_Tasks_harmonic.l0 k t106 t109 (t109.length : Int) 0 l0_0)))
theorem impl_Tasks_harmonic.mono_l : ∀ k, (∀ y0 y1 y2 y3 y4, LeO (impl_Tasks_harmonic.l0 k y0 y1 y2 y3 y4) (impl_Tasks_harmonic.l0 (k + 1) y0 y1 y2 y3 y4)) ∧ (∀ y0 y1 y2 y3 y4 y5 y6, LeO (impl_Tasks_harmonic.l1 k y0 y1 y2 y3 y4 y5 y6) (impl_Tasks_harmonic.l1 (k + 1) y0 y1 y2 y3 y4 y5 y6))
  | 0 => ⟨fun _ _ _ _ _ r h => by simp [impl_Tasks_harmonic.l0] at h, fun _ _ _ _ _ _ _ r h => by simp [impl_Tasks_harmonic.l1] at h⟩
  | k + 1 => by
    obtain ⟨ih0, ih1⟩ := impl_Tasks_harmonic.mono_l k
    refine ⟨?_, ?_⟩ <;> intros <;> (first | unfold impl_Tasks_harmonic.l0 | unfold impl_Tasks_harmonic.l1) <;> repeat' first | (with_reducible exact ih0 _ _ _ _ _) | (with_reducible exact ih1 _ _ _ _ _ _ _) | (with_reducible exact impl_Tasks_byGap.mono _ _) | (with_reducible exact slices_Index_Sint64_int64.mono _ _ _) | (with_reducible exact slices_Max_Sint64_int64.mono _ _) | (with_reducible exact LeO.refl _) | (with_reducible exact LeO.none _) | (with_reducible refine LeO.ite ?_ ?_) | (with_reducible refine LeO.bind ?_ (fun _ => ?_)) | exact ih0 _ _ _ _ _ | exact ih1 _ _ _ _ _ _ _ | exact impl_Tasks_byGap.mono _ _ | exact slices_Index_Sint64_int64.mono _ _ _ | exact slices_Max_Sint64_int64.mono _ _ | exact LeO.none _ | refine LeO.ite ?_ ?_ | refine LeO.bind ?_ (fun _ => ?_)
theorem impl_Tasks_harmonic.mono : ∀ a0 k, LeO (impl_Tasks_harmonic.f k a0) (impl_Tasks_harmonic.f (k + 1) a0) := by
  intro a0 k
  obtain ⟨ih0, ih1⟩ := impl_Tasks_harmonic.mono_l k
  unfold impl_Tasks_harmonic.f
  repeat' first | (with_reducible exact ih0 _ _ _ _ _) | (with_reducible exact ih1 _ _ _ _ _ _ _) | (with_reducible exact impl_Tasks_byGap.mono _ _) | (with_reducible exact slices_Index_Sint64_int64.mono _ _ _) | (with_reducible exact slices_Max_Sint64_int64.mono _ _) | (with_reducible exact LeO.refl _) | (with_reducible exact LeO.none _) | (with_reducible refine LeO.ite ?_ ?_) | (with_reducible refine LeO.bind ?_ (fun _ => ?_)) | exact ih0 _ _ _ _ _ | exact ih1 _ _ _ _ _ _ _ | exact impl_Tasks_byGap.mono _ _ | exact slices_Index_Sint64_int64.mono _ _ _ | exact slices_Max_Sint64_int64.mono _ _ | exact LeO.none _ | refine LeO.ite ?_ ?_ | refine LeO.bind ?_ (fun _ => ?_)
set_option maxHeartbeats 8000000 in
set_option maxRecDepth 100000 in
theorem impl_Tasks_harmonic.calls (k : Nat) (A0_0 : Option Addr) (c0_0 : Nat) (l0_0 : List Int) (r : List Int) (w : World) (hr0_0 : Kd.C (Kd.int .i64) w A0_0 l0_0.length l0_0) (hc0_0 : l0_0.length ≤ c0_0) (h : impl_Tasks_harmonic.f k l0_0 = some r) :
    Calls Try.prog 28 #[.agg #[.slice A0_0 l0_0.length c0_0]] w fun e w' => ∃ v0_ : Value, e = .returned (v0_) ∧ Kd.R (Kd.int .i64) 2 w' w.heap.size (fun _ => True) v0_ r ∧ Below w.heap.size w w' := by
 have hu26 := Try.underlying26
 have HR0_0 := Aside0.mk hr0_0
 have HC0_0 := Aside0.mk hc0_0
 clear hr0_0 hc0_0
 have HB := Aside0.mk (Below.refl w.heap.size w)
 have H : ((slices_Max_Sint64_int64.f k l0_0).bind fun t105 => ((slices_Repeat_Sint64_int64.f (([(-1)] : List Int)) t105).bind fun t106 => ((impl_Tasks_byGap.f k l0_0).bind fun t109 => (impl_Tasks_harmonic.l0 k t106 t109 (t109.length : Int) 0 l0_0)))) = some r := h
 clear h
 obtain ⟨y102, hy102⟩ : ∃ y_ : List Int, y_ = (([(-1)] : List Int)) := ⟨_, rfl⟩
 replace H : ((slices_Max_Sint64_int64.f k l0_0).bind fun t105 => ((slices_Repeat_Sint64_int64.f y102 t105).bind fun t106 => ((impl_Tasks_byGap.f k l0_0).bind fun t109 => (impl_Tasks_harmonic.l0 k t106 t109 (t109.length : Int) 0 l0_0)))) = some r := zH hy102
 have Ny102 := Aside0.mk hy102
 clear hy102
 replace H := Option.bind_eq_some_iff.mp H
 obtain ⟨t105, A20, H⟩ := H
 replace H : ((slices_Repeat_Sint64_int64.f y102 t105).bind fun t106 => ((impl_Tasks_byGap.f k l0_0).bind fun t109 => (impl_Tasks_harmonic.l0 k t106 t109 (t109.length : Int) 0 l0_0))) = some r := H
 have A2 := Aside0.mk A20
 clear A20
 replace H := Option.bind_eq_some_iff.mp H
 obtain ⟨t106, A30, H⟩ := H
 replace H : ((impl_Tasks_byGap.f k l0_0).bind fun t109 => (impl_Tasks_harmonic.l0 k t106 t109 (t109.length : Int) 0 l0_0)) = some r := H
 have A3 := Aside0.mk A30
 clear A30
 replace H := Option.bind_eq_some_iff.mp H
 obtain ⟨t109, A40, H⟩ := H
 replace H : (impl_Tasks_harmonic.l0 k t106 t109 (t109.length : Int) 0 l0_0) = some r := H
 have A4 := Aside0.mk A40
 clear A40
 have H' := Aside0.mk H
 clear H
 go_enter Try.func28, Try.ntmps28
 go_wp2_with (first | ((with_reducible refine gate_dst (N := 1) rfl ?_); refine box_event zr (N := 1) zr (cs := #[.slice A0_0 l0_0.length c0_0]) (t := 26) zg ?_; intro gb101 hg w5 hbox hb; have n_ := y4 (below_step (zB) hb) (hbox) ((zS hg : w.heap.size ≤ gb101)) ((zS hg : w.heap.size ≤ gb101)); clear HB; obtain ⟨HB, BK101, GW101, GE101⟩ := n_; clear hb hbox hg) | ((with_reducible refine gate_dst (N := 7) rfl ?_); refine Kd.R_lit (Kd.int .i64) _ 2 ?hg (N := 7) ?hd (xs := ([(-1)] : List Int)) (inner := [.int .i64 (-1)]) (ok := fun _ => True) (okp := fun _ => True) ?hr ?hp (fun _ hk => hk) trivial (Below.refl _ _) (Nat.le_refl _) (by simp) ?_; (case hd => rfl); (case hg => rfl); (case hr => first | (go_simp; done) | (go_simp; rfl)); (case hp => exact (Reps.one (show Kd.M (Kd.int .i64) _ _ _ (-1) [.int .i64 (-1)] from rfl) (Reps.none _ _))); intro v103 w6 ho7 hb hg_ hnew_; clear hg_ hnew_; (first | rw [← Ny102.out] at ho7 | (simp only [Int.reduceToNat] at ho7; rw [← Ny102.out] at ho7)); have n_ := y3 (Kd.R_lower ho7 (below_size (zB))) (zb BK101.out hb) (below_step (zB) hb); clear BK101 HB; obtain ⟨HO104, BK101, HB⟩ := n_; clear hb ho7; have hcz8_0 := zc BK101.out; have hfz8_0 := blk_frozen BK101.out 0) | ((with_reducible refine gate_callee (f := 53) rfl ?_); refine goesL_ (some 10) rfl rfl Try.func53 zk rfl #[.slice A0_0 l0_0.length c0_0] rfl zA ?_; (with_reducible refine (slices_Max_Sint64_int64.calls k _ _ l0_0 t105 _ ?side1 ?side2 A2.out).mono ?_); (case side1 => exact zC (Kd.C_below HR0_0.out HB.out)); (case side2 => exact HC0_0.out); rintro e w9 ⟨rfl, hb⟩; refine ⟨_, rfl, ?_⟩; have n_ := y3 (Kd.R_below (zR HO104.out) hb) (zb BK101.out hb) (below_step (zB) hb); clear HO104 BK101 HB; obtain ⟨HO104, BK101, HB⟩ := n_; (try clear hb); (try clear hb2); (try clear hk); (try clear hi); obtain ⟨Ao10, co10, eo10⟩ := Kd.R_slice HO104.out; subst eo10) | ((with_reducible refine gate_callee (f := 52) rfl ?_); refine goesL_ (some 11) rfl rfl Try.func52 zk rfl #[.slice Ao10 y102.length co10, .int .i64 t105] rfl zA ?_; (with_reducible refine (slices_Repeat_Sint64_int64.calls _ _ y102 t105 t106 _ ?side1 ?side2 A3.out).mono ?_); (case side1 => exact zC (Kd.R_reads' HO104.out).2.2); (case side2 => exact (Kd.R_reads' HO104.out).2.1); rintro e w11 ⟨v107, rfl, ho0, hb⟩; refine ⟨_, rfl, ?_⟩; have n_ := y4 (Kd.R_elder' (zR HO104.out) (Kd.R_base ho0) hb) (Kd.R_lower (Kd.R_new' ho0 (Kd.R_lt (zR HO104.out))) (below_size (zB))) (zb BK101.out hb) (below_step (zB) hb); clear HO104 BK101 HB; obtain ⟨HO104, HO108, BK101, HB⟩ := n_; (try clear hb); (try clear hb2); (try clear hk); (try clear hi); (try clear ho0); have hcz12_0 := zc BK101.out; have hfz12_0 := blk_frozen BK101.out 0) | ((with_reducible refine gate_callee (f := 54) rfl ?_); refine goesL_ (some 13) rfl rfl Try.func54 zk rfl #[.agg #[.slice A0_0 l0_0.length c0_0]] rfl zA ?_; (with_reducible refine (impl_Tasks_byGap.calls k _ _ l0_0 t109 _ ?side1 ?side2 A4.out).mono ?_); (case side1 => exact zC (Kd.C_below HR0_0.out HB.out)); (case side2 => exact HC0_0.out); rintro e w13 ⟨v110, rfl, ho0, hb⟩; refine ⟨_, rfl, ?_⟩; have n_ := y5 (Kd.R_elder' (zR HO104.out) (Kd.R_base ho0) hb) (Kd.R_elder' (zR HO108.out) (Kd.R_base ho0) hb) (Kd.R_lower (Kd.R_new' (Kd.R_new' ho0 (Kd.R_lt (zR HO104.out))) (Kd.R_lt (zR HO108.out))) (below_size (zB))) (zb BK101.out hb) (below_step (zB) hb); clear HO104 HO108 BK101 HB; obtain ⟨HO104, HO108, HO111, BK101, HB⟩ := n_; (try clear hb); (try clear hb2); (try clear hk); (try clear hi); (try clear ho0); obtain ⟨Ao14, co14, eo14⟩ := Kd.R_slice HO111.out; subst eo14))
 go_loopg [15] k (fun kq v15 w' => ∃ (x3_1 : List Int) (x15_1 : Int), v15 = .int .i64 x15_1 ∧ Aside0 (impl_Tasks_harmonic.l0 kq x3_1 t109 (t109.length : Int) x15_1 l0_0 = some r) ∧ Aside0 (kq ≤ k) ∧ Aside0 (Kd.R (Kd.int .i64) 2 w' w.heap.size (fun k_ => some k_ ≠ ((.slice Ao14 t109.length co14) : Value).ownBlock) v107 x3_1) ∧ Aside0 (Kd.R (Kd.int .i64) 2 w' w.heap.size (fun k_ => some k_ ≠ (v107 : Value).ownBlock) (.slice Ao14 t109.length co14) t109) ∧ Aside0 (w'.heap[gb101]? = some (.cells #[(.slice A0_0 l0_0.length c0_0)] 26 (0, 0))) ∧ Aside0 (Below w.heap.size w w'))
 case atStart => exact ⟨(t106), (0), zF, H', ⟨Nat.le_refl _⟩, ⟨by refine zR ?_; exact Kd.R_mono HO108.out (fun _ hk => hk.2)⟩, ⟨by refine zR ?_; exact Kd.R_mono HO111.out (fun _ hk => hk.2)⟩, ⟨zG BK101.out⟩, ⟨zB⟩⟩
 clear H'
 try clear hcz12_0
 try clear hcz8_0
 try clear hfz12_0
 try clear hfz8_0
 obtain ⟨x3_1, x15_1, rfl, HA, HK1, HO_3, HO_13, BK101, HB⟩ := hrel
 cases gk with
 | zero => exact absurd HA.out (by simp [impl_Tasks_harmonic.l0])
 | succ k1 =>
   have H := HA.out
   clear HA
   simp only [impl_Tasks_harmonic.l0] at H
   by_cases c15 : x15_1 < (t109.length : Int)
   · rw [if_pos c15] at H
     have c15b0 : decide (x15_1 < (t109.length : Int)) = true := decide_eq_true c15
     clear c15
     by_cases c16 : 0 ≤ x15_1
     · rw [if_pos c16] at H
       have c16b0 : decide (0 ≤ x15_1) = true := decide_eq_true c16
       clear c16
       by_cases c17 : x15_1 < (t109.length : Int)
       · rw [if_pos c17] at H
         have c17b0 : decide (x15_1 < (t109.length : Int)) = true := decide_eq_true c17
         clear c17
         replace H := Option.bind_eq_some_iff.mp H
         obtain ⟨t113, A180, H⟩ := H
         replace H : (impl_Tasks_harmonic.l1 k1 x3_1 (rd t109 x15_1) t113 t109 (t109.length : Int) x15_1 l0_0) = some r := H
         have A18 := Aside0.mk A180
         clear A180
         have H' := Aside0.mk H
         clear H
         have p112 : 0 ≤ (x15_1 : Int) := zD
         have q112 : x15_1 < (t109.length : Int) := zD
         obtain ⟨ad112, e112, hx112_0⟩ := Kd.at_int (Kd.R_reads' HO_13.out).2.2 x15_1 p112 q112
         cases e112
         replace p112 := eq_true p112
         replace q112 := eq_true q112
         obtain ⟨Ao19, co19, eo19⟩ := Kd.R_slice HO_3.out
         subst eo19
         go_wp2_with (first | ((with_reducible refine gate_callee (f := 55) rfl ?_); refine goesL_ (some 20) rfl rfl Try.func55 zk rfl #[.slice Ao19 x3_1.length co19, .int .i64 (-1)] rfl zA ?_; (with_reducible refine (slices_Index_Sint64_int64.calls k1 _ _ x3_1 (-1) t113 _ ?side1 ?side2 A18.out).mono ?_); (case side1 => exact zC (Kd.R_reads' HO_3.out).2.2); (case side2 => exact (Kd.R_reads' HO_3.out).2.1); rintro e w' ⟨rfl, ⟨nd, rfl⟩⟩; refine ⟨_, rfl, ?_⟩))
         go_loopg [6] k1 (fun kq v6 w' => ∃ (x3_2 : List Int) (x6_2 : Int), v6 = .int .i64 x6_2 ∧ Aside0 (impl_Tasks_harmonic.l1 kq x3_2 (rd t109 x15_1) x6_2 t109 (t109.length : Int) x15_1 l0_0 = some r) ∧ Aside0 (kq ≤ k1) ∧ Aside0 (Kd.R (Kd.int .i64) 2 w' w.heap.size (fun k_ => some k_ ≠ ((.slice (some ad112) t109.length co14) : Value).ownBlock) (.slice Ao19 x3_1.length co19) x3_2) ∧ Aside0 (Kd.R (Kd.int .i64) 2 w' w.heap.size (fun k_ => some k_ ≠ ((.slice Ao19 x3_1.length co19) : Value).ownBlock) (.slice (some ad112) t109.length co14) t109) ∧ Aside0 (w'.heap[gb101]? = some (.cells #[(.slice A0_0 l0_0.length c0_0)] 26 (0, 0))) ∧ Aside0 (Below w.heap.size w w'))
         case atStart => exact ⟨(x3_1), (t113), zF, H', ⟨Nat.le_refl _⟩, ⟨zR HO_3.out⟩, ⟨zR HO_13.out⟩, ⟨zG BK101.out⟩, ⟨zB⟩⟩
         case round =>
           clear H'
           try clear c15
           try clear c15b0
           try clear c16
           try clear c16b0
           try clear c17
           try clear c17b0
           try clear hcz12_0
           try clear hcz8_0
           try clear hfz12_0
           try clear hfz8_0
           try clear hx112_0
           try clear p112
           try clear q112
           obtain ⟨x3_2, x6_2, rfl, HA, HK2, HO_3, HO_13, BK101, HB⟩ := hrel
           have hl3_2 := (Kd.R_reads' HO_3.out).1
           rw [hl3_2] at HO_3
           (try simp only [hl3_2])
           (try simp only [hl3_2] at BK101)
           (try simp only [hl3_2] at HO_13)
           cases gk with
           | zero => exact absurd HA.out (by simp [impl_Tasks_harmonic.l1])
           | succ k2 =>
             have H := HA.out
             clear HA
             simp only [impl_Tasks_harmonic.l1] at H
             by_cases c20 : x6_2 < (x3_2.length : Int)
             · rw [if_pos c20] at H
               have c20b0 : decide (x6_2 < (x3_2.length : Int)) = true := decide_eq_true c20
               clear c20
               by_cases c21 : 0 ≤ x6_2
               · rw [if_pos c21] at H
                 have c21b0 : decide (0 ≤ x6_2) = true := decide_eq_true c21
                 clear c21
                 obtain ⟨y114, hy114⟩ : ∃ y_ : List Int, y_ = (x3_2.set (x6_2 : Int).toNat (rd t109 x15_1)) := ⟨_, rfl⟩
                 replace H : (if 0 ≤ (rd t109 x15_1) then (if (rd t109 x15_1) < (l0_0.length : Int) then (impl_Tasks_harmonic.l1 k2 y114 (rd t109 x15_1) (wrap64 (x6_2 + (rd l0_0 (rd t109 x15_1)))) t109 (t109.length : Int) x15_1 l0_0) else (none)) else (none)) = some r := zH hy114
                 have Ny114 := Aside0.mk hy114
                 clear hy114
                 by_cases c23 : 0 ≤ (rd t109 x15_1)
                 · rw [if_pos c23] at H
                   have c23b0 : decide (0 ≤ (rd t109 x15_1)) = true := decide_eq_true c23
                   clear c23
                   by_cases c24 : (rd t109 x15_1) < (l0_0.length : Int)
                   · rw [if_pos c24] at H
                     have c24b0 : decide ((rd t109 x15_1) < (l0_0.length : Int)) = true := decide_eq_true c24
                     clear c24
                     have H' := Aside0.mk H
                     clear H
                     have p22 : 0 ≤ (x6_2 : Int) := zD
                     have q22 : (x6_2 : Int) < ((x3_2.length : Int) : Int) := zD
                     obtain ⟨go22, co22, eo22, gb22, gl22, cl22, HG22⟩ := Kd.R_form HO_3.out (by omega)
                     (first | cases eo22 | (injection eo22 with ea_ en_ ec_; (first | subst ea_ | (injection ea_ with ea_; subst ea_)); subst ec_; clear en_))
                     have GB22 := Aside0.mk gb22
                     have GG22 := Aside0.mk HG22
                     clear gb22 gl22 HG22
                     obtain ⟨hx22_0, hf22_0⟩ := Kd.R_celln 0 HO_3.out (x6_2 : Int) p22 q22
                     replace p22 := eq_true p22
                     replace q22 := eq_true q22
                     have HP25 := Kd.R_putg HO_3.out (x6_2 : Int) (rd t109 x15_1)
                     go_wp2_with (first | ((with_reducible refine gate_store (t := 2) (p := 35) rfl ?_); refine store_event (t := 2) (p := 35) (v := ?vo_w26) (w1 := (wr.setCell ⟨go22, (x6_2 : Int).toNat, none⟩ (.int .i64 (rd t109 x15_1)))) ?hg ?ho ?hn ?hr ?_; (case ho => rfl); (case hg => rfl); (case hn => rfl); (case hr => first | (go_simp; done) | (go_simp; rfl)); intro w26 hw; have hg : wr.grownBy w26 (some go22) := (by rw [hw]; exact HP25.2); have hp_ : Kd.R (Kd.int .i64) 2 w26 w.heap.size (fun k_ => some k_ ≠ (.slice (some ad112) t109.length co14 : Value).ownBlock) (.slice (some ⟨go22, 0, none⟩) x3_2.length co19) y114 := (by rw [hw, Ny114.out]; exact HP25.1); clear HP25; have n_ := y4 (hp_) (Kd.R_after (v := (.slice (some ⟨go22, 0, none⟩) x3_2.length co19)) (v1 := (.slice (some ⟨go22, 0, none⟩) x3_2.length co19)) (ok := (fun _ => True)) (by refine zR ?_; exact Kd.R_mono HO_13.out (fun _ hk => ⟨trivial, hk⟩)) hg (.inl rfl)) (blk_grown (g := gb101) (o := .cells #[.slice A0_0 l0_0.length c0_0] 26 (0, 0)) (zG BK101.out) hg (Kd.R_ne HO_3.out BK101.out (by decide))) ((by rw [hw]; exact below_set (HB.out) GB22.out : Below w.heap.size w w26)); clear HO_3 HO_13 BK101 HB; obtain ⟨HO_3, HO_13, BK101, HB⟩ := n_; clear hg hw hp_; have hcz27_0 := zc BK101.out; have hfz27_0 := blk_frozen BK101.out 0; have p115 : 0 ≤ ((rd t109 x15_1) : Int) := zD; have q115 : (rd t109 x15_1) < (l0_0.length : Int) := zD; obtain ⟨ad115, e115, hx115_0⟩ := Kd.at_int HR0_0.out (rd t109 x15_1) p115 q115; cases e115; replace hx115_0 := (HB.out.cell (World.block_lt_of_cell? w _ hx115_0)).trans hx115_0; replace p115 := eq_true p115; replace q115 := eq_true q115))
                     (try simp only [← hl3_2])
                     go_roundg k2
                     case measure => have := HK1.out; have := HK2.out; omega
                     case rel => exact ⟨(y114), (wrap64 (x6_2 + (rd l0_0 (rd t109 x15_1)))), zF, H', ⟨by have := HK1.out; have := HK2.out; omega⟩, ⟨by (try simp only [hl3_2]); refine zR ?_; exact HO_3.out⟩, ⟨by (try simp only [hl3_2]); refine zR ?_; exact Kd.R_mono HO_13.out (fun _ hk => hk.2)⟩, ⟨by (try simp only [hl3_2]); refine zG ?_; exact BK101.out⟩, ⟨zB⟩⟩
                   · rw [if_neg c24] at H
                     exact absurd H (by simp)
                 · rw [if_neg c23] at H
                   exact absurd H (by simp)
               · rw [if_neg c21] at H
                 exact absurd H (by simp)
             · rw [if_neg c20] at H
               have c20b0 : decide (x6_2 < (x3_2.length : Int)) = false := decide_eq_false c20
               clear c20
               have H' := Aside0.mk H
               clear H
               go_wp2
               (try simp only [← hl3_2])
               go_roundg k2
               case measure => have := HK1.out; have := HK2.out; omega
               case rel => exact ⟨(x3_2), (wrap64 (x15_1 + 1)), zF, H', ⟨by have := HK1.out; have := HK2.out; omega⟩, ⟨by (try simp only [hl3_2]); refine zR ?_; exact HO_3.out⟩, ⟨by (try simp only [hl3_2]); refine zR ?_; exact HO_13.out⟩, ⟨by (try simp only [hl3_2]); refine zG ?_; exact BK101.out⟩, ⟨zB⟩⟩
       · rw [if_neg c17] at H
         exact absurd H (by simp)
     · rw [if_neg c16] at H
       exact absurd H (by simp)
   · rw [if_neg c15] at H
     have c15b0 : decide (x15_1 < (t109.length : Int)) = false := decide_eq_false c15
     clear c15
     obtain rfl := Option.some.inj H
     go_wp2
     go_ret
     exact ⟨_, zE, by refine zR ?_; exact Kd.R_mono HO_3.out (fun _ hk => trivial), zB⟩
end Go.Proofs.Ytgbapmmfhdphmaa.P
end
section
namespace Go.Proofs.Ytgbapmmfhdphmaa.P
open Go.RowKit Go.Proofs.YtgbapmmfhdphmaaW.PrintWords Go.Proofs.YtgbapmmfhdphmaaW.PrintLast Go.Proofs.YtgbapmmfhdphmaaW.PrintMore
attribute [local go_sem] max2_int min2_int max_two min_two max_three min_three max_four min_four   -- for this text's walks alone
set_option linter.unusedVariables false
set_option linter.unusedSimpArgs false
def impl_HarmonicTurns.f (k : Nat) (l0_0 : List Int) : Option (List Int × Int) := (impl_tasksCode.f l0_0 true).bind fun t102 => (if t102 = 0 then ((impl_Tasks_isHarmonic.f l0_0).bind fun t103 => (if t103 = true then ((impl_Tasks_isThin.f k l0_0).bind fun t104 => (if t104 = true then ((impl_Tasks_harmonic.f k l0_0).bind fun t105 => (some (t105, 0))) else (some (([] : List Int), 4)))) else (some (([] : List Int), 5)))) else (some (([] : List Int), t102)))
theorem impl_HarmonicTurns.mono : ∀ a0 k, LeO (impl_HarmonicTurns.f k a0) (impl_HarmonicTurns.f (k + 1) a0) := by
  intro a0 k
  unfold impl_HarmonicTurns.f
  repeat' first | (with_reducible exact impl_Tasks_harmonic.mono _ _) | (with_reducible exact impl_Tasks_isThin.mono _ _) | (with_reducible exact LeO.refl _) | (with_reducible exact LeO.none _) | (with_reducible refine LeO.ite ?_ ?_) | (with_reducible refine LeO.bind ?_ (fun _ => ?_)) | exact impl_Tasks_harmonic.mono _ _ | exact impl_Tasks_isThin.mono _ _ | exact LeO.none _ | refine LeO.ite ?_ ?_ | refine LeO.bind ?_ (fun _ => ?_)
set_option maxHeartbeats 8000000 in
set_option maxRecDepth 100000 in
theorem impl_HarmonicTurns.calls (k : Nat) (A0_0 : Option Addr) (c0_0 : Nat) (l0_0 : List Int) (r1 : List Int) (r2 : Int) (w : World) (hr0_0 : Kd.C (Kd.int .i64) w A0_0 l0_0.length l0_0) (hc0_0 : l0_0.length ≤ c0_0) (h : impl_HarmonicTurns.f k l0_0 = some (r1, r2)) :
    Calls Try.prog 6 #[.agg #[.slice A0_0 l0_0.length c0_0]] w fun e w' => ∃ v0_ : Value, e = .returned (.tuple #[v0_, .int .i64 r2]) ∧ Kd.R (Kd.int .i64) 2 w' w.heap.size (fun _ => True) v0_ r1 ∧ Below w.heap.size w w' := by
 have hu26 := Try.underlying26
 have HR0_0 := Aside0.mk hr0_0
 have HC0_0 := Aside0.mk hc0_0
 clear hr0_0 hc0_0
 have HB := Aside0.mk (Below.refl w.heap.size w)
 have H : ((impl_tasksCode.f l0_0 true).bind fun t102 => (if t102 = 0 then ((impl_Tasks_isHarmonic.f l0_0).bind fun t103 => (if t103 = true then ((impl_Tasks_isThin.f k l0_0).bind fun t104 => (if t104 = true then ((impl_Tasks_harmonic.f k l0_0).bind fun t105 => (some (t105, 0))) else (some (([] : List Int), 4)))) else (some (([] : List Int), 5)))) else (some (([] : List Int), t102)))) = some (r1, r2) := h
 clear h
 replace H := Option.bind_eq_some_iff.mp H
 obtain ⟨t102, A20, H⟩ := H
 replace H : (if t102 = 0 then ((impl_Tasks_isHarmonic.f l0_0).bind fun t103 => (if t103 = true then ((impl_Tasks_isThin.f k l0_0).bind fun t104 => (if t104 = true then ((impl_Tasks_harmonic.f k l0_0).bind fun t105 => (some (t105, 0))) else (some (([] : List Int), 4)))) else (some (([] : List Int), 5)))) else (some (([] : List Int), t102))) = some (r1, r2) := H
 have A2 := Aside0.mk A20
 clear A20
 by_cases c3 : t102 = 0
 ·
  rw [if_pos c3] at H
  have c3b0 : (t102 == 0) = true := beq_iff_eq.mpr c3
  have c3b1 : (t102 != 0) = false := bne_eq_false_iff_eq.mpr c3
  clear c3
  replace H := Option.bind_eq_some_iff.mp H
  obtain ⟨t103, A40, H⟩ := H
  replace H : (if t103 = true then ((impl_Tasks_isThin.f k l0_0).bind fun t104 => (if t104 = true then ((impl_Tasks_harmonic.f k l0_0).bind fun t105 => (some (t105, 0))) else (some (([] : List Int), 4)))) else (some (([] : List Int), 5))) = some (r1, r2) := H
  have A4 := Aside0.mk A40
  clear A40
  by_cases c5 : t103 = true
  ·
   subst c5
   have H1 : ((impl_Tasks_isThin.f k l0_0).bind fun t104 => (if t104 = true then ((impl_Tasks_harmonic.f k l0_0).bind fun t105 => (some (t105, 0))) else (some (([] : List Int), 4)))) = some (r1, r2) := by rw [if_pos rfl] at H; exact H
   clear H
   have H := H1
   clear H1
   replace H := Option.bind_eq_some_iff.mp H
   obtain ⟨t104, A60, H⟩ := H
   replace H : (if t104 = true then ((impl_Tasks_harmonic.f k l0_0).bind fun t105 => (some (t105, 0))) else (some (([] : List Int), 4))) = some (r1, r2) := H
   have A6 := Aside0.mk A60
   clear A60
   by_cases c7 : t104 = true
   ·
    subst c7
    have H1 : ((impl_Tasks_harmonic.f k l0_0).bind fun t105 => (some (t105, 0))) = some (r1, r2) := by rw [if_pos rfl] at H; exact H
    clear H
    have H := H1
    clear H1
    replace H := Option.bind_eq_some_iff.mp H
    obtain ⟨t105, A80, H⟩ := H
    replace H : (some (t105, 0)) = some (r1, r2) := H
    have A8 := Aside0.mk A80
    clear A80
    simp only [Option.some.injEq, Prod.mk.injEq] at H
    obtain ⟨rfl, rfl⟩ := H
    go_enter Try.func6, Try.ntmps6
    go_wp2_with (first | ((with_reducible refine gate_dst (N := 1) rfl ?_); refine box_event zr (N := 1) zr (cs := #[.slice A0_0 l0_0.length c0_0]) (t := 26) zg ?_; intro gb101 hg w9 hbox hb; have n_ := y4 (below_step (zB) hb) (hbox) ((zS hg : w.heap.size ≤ gb101)) ((zS hg : w.heap.size ≤ gb101)); clear HB; obtain ⟨HB, BK101, GW101, GE101⟩ := n_; clear hb hbox hg; have hcz10_0 := zc BK101.out; have hfz10_0 := blk_frozen BK101.out 0) | ((with_reducible refine gate_callee (f := 25) rfl ?_); refine goesL_ (some 6) rfl rfl Try.func25 zk rfl #[.agg #[.slice A0_0 l0_0.length c0_0], .bool true] rfl zA ?_; (with_reducible refine (impl_tasksCode.calls _ _ l0_0 true t102 _ ?side1 ?side2 A2.out).mono ?_); (case side1 => exact zC (Kd.C_below HR0_0.out HB.out)); (case side2 => exact HC0_0.out); rintro e w11 ⟨rfl, hb⟩; refine ⟨_, rfl, ?_⟩; have n_ := y2 (zb BK101.out hb) (below_step (zB) hb); clear BK101 HB; obtain ⟨BK101, HB⟩ := n_; (try clear hb); (try clear hb2); (try clear hk); (try clear hi); have hcz12_0 := zc BK101.out; have hfz12_0 := blk_frozen BK101.out 0) | ((with_reducible refine gate_callee (f := 26) rfl ?_); refine goesL_ (some 12) rfl rfl Try.func26 zk rfl #[.agg #[.slice A0_0 l0_0.length c0_0]] rfl zA ?_; (with_reducible refine (impl_Tasks_isHarmonic.calls _ _ l0_0 true _ ?side1 ?side2 A4.out).mono ?_); (case side1 => exact zC (Kd.C_below HR0_0.out HB.out)); (case side2 => exact HC0_0.out); rintro e w13 ⟨rfl, hb⟩; refine ⟨_, rfl, ?_⟩; have n_ := y2 (zb BK101.out hb) (below_step (zB) hb); clear BK101 HB; obtain ⟨BK101, HB⟩ := n_; (try clear hb); (try clear hb2); (try clear hk); (try clear hi); have hcz14_0 := zc BK101.out; have hfz14_0 := blk_frozen BK101.out 0) | ((with_reducible refine gate_callee (f := 27) rfl ?_); refine goesL_ (some 16) rfl rfl Try.func27 zk rfl #[.agg #[.slice A0_0 l0_0.length c0_0]] rfl zA ?_; (with_reducible refine (impl_Tasks_isThin.calls k _ _ l0_0 true _ ?side1 ?side2 A6.out).mono ?_); (case side1 => exact zC (Kd.C_below HR0_0.out HB.out)); (case side2 => exact HC0_0.out); rintro e w15 ⟨rfl, hb⟩; refine ⟨_, rfl, ?_⟩; have n_ := y2 (zb BK101.out hb) (below_step (zB) hb); clear BK101 HB; obtain ⟨BK101, HB⟩ := n_; (try clear hb); (try clear hb2); (try clear hk); (try clear hi); have hcz16_0 := zc BK101.out; have hfz16_0 := blk_frozen BK101.out 0) | ((with_reducible refine gate_callee (f := 28) rfl ?_); refine goesL_ (some 19) rfl rfl Try.func28 zk rfl #[.agg #[.slice A0_0 l0_0.length c0_0]] rfl zA ?_; (with_reducible refine (impl_Tasks_harmonic.calls k _ _ l0_0 t105 _ ?side1 ?side2 A8.out).mono ?_); (case side1 => exact zC (Kd.C_below HR0_0.out HB.out)); (case side2 => exact HC0_0.out); rintro e w17 ⟨v106, rfl, ho0, hb⟩; refine ⟨_, rfl, ?_⟩; have n_ := y3 (Kd.R_lower ho0 (below_size (zB))) (zb BK101.out hb) (below_step (zB) hb); clear BK101 HB; obtain ⟨HO107, BK101, HB⟩ := n_; (try clear hb); (try clear hb2); (try clear hk); (try clear hi); (try clear ho0)))
    go_ret2
    exact ⟨_, zE, zR HO107.out, zB⟩
   replace c7 := Bool.eq_false_iff.mpr c7
   subst c7
   have H1 : (some (([] : List Int), 4)) = some (r1, r2) := by rw [if_neg (show ¬ (false = true) by decide)] at H; exact H
   clear H
   have H := H1
   clear H1
   simp only [Option.some.injEq, Prod.mk.injEq] at H
   obtain ⟨rfl, rfl⟩ := H
   go_enter Try.func6, Try.ntmps6
   go_wp2_with (first | ((with_reducible refine gate_dst (N := 1) rfl ?_); refine box_event zr (N := 1) zr (cs := #[.slice A0_0 l0_0.length c0_0]) (t := 26) zg ?_; intro gb101 hg w18 hbox hb; have n_ := y4 (below_step (zB) hb) (hbox) ((zS hg : w.heap.size ≤ gb101)) ((zS hg : w.heap.size ≤ gb101)); clear HB; obtain ⟨HB, BK101, GW101, GE101⟩ := n_; clear hb hbox hg; have hcz19_0 := zc BK101.out; have hfz19_0 := blk_frozen BK101.out 0) | ((with_reducible refine gate_callee (f := 25) rfl ?_); refine goesL_ (some 6) rfl rfl Try.func25 zk rfl #[.agg #[.slice A0_0 l0_0.length c0_0], .bool true] rfl zA ?_; (with_reducible refine (impl_tasksCode.calls _ _ l0_0 true t102 _ ?side1 ?side2 A2.out).mono ?_); (case side1 => exact zC (Kd.C_below HR0_0.out HB.out)); (case side2 => exact HC0_0.out); rintro e w20 ⟨rfl, hb⟩; refine ⟨_, rfl, ?_⟩; have n_ := y2 (zb BK101.out hb) (below_step (zB) hb); clear BK101 HB; obtain ⟨BK101, HB⟩ := n_; (try clear hb); (try clear hb2); (try clear hk); (try clear hi); have hcz21_0 := zc BK101.out; have hfz21_0 := blk_frozen BK101.out 0) | ((with_reducible refine gate_callee (f := 26) rfl ?_); refine goesL_ (some 12) rfl rfl Try.func26 zk rfl #[.agg #[.slice A0_0 l0_0.length c0_0]] rfl zA ?_; (with_reducible refine (impl_Tasks_isHarmonic.calls _ _ l0_0 true _ ?side1 ?side2 A4.out).mono ?_); (case side1 => exact zC (Kd.C_below HR0_0.out HB.out)); (case side2 => exact HC0_0.out); rintro e w22 ⟨rfl, hb⟩; refine ⟨_, rfl, ?_⟩; have n_ := y2 (zb BK101.out hb) (below_step (zB) hb); clear BK101 HB; obtain ⟨BK101, HB⟩ := n_; (try clear hb); (try clear hb2); (try clear hk); (try clear hi); have hcz23_0 := zc BK101.out; have hfz23_0 := blk_frozen BK101.out 0) | ((with_reducible refine gate_callee (f := 27) rfl ?_); refine goesL_ (some 16) rfl rfl Try.func27 zk rfl #[.agg #[.slice A0_0 l0_0.length c0_0]] rfl zA ?_; (with_reducible refine (impl_Tasks_isThin.calls k _ _ l0_0 false _ ?side1 ?side2 A6.out).mono ?_); (case side1 => exact zC (Kd.C_below HR0_0.out HB.out)); (case side2 => exact HC0_0.out); rintro e w24 ⟨rfl, hb⟩; refine ⟨_, rfl, ?_⟩; have n_ := y2 (zb BK101.out hb) (below_step (zB) hb); clear BK101 HB; obtain ⟨BK101, HB⟩ := n_; (try clear hb); (try clear hb2); (try clear hk); (try clear hi)))
   go_ret2
   exact ⟨_, zE, zN, zB⟩
  replace c5 := Bool.eq_false_iff.mpr c5
  subst c5
  have H1 : (some (([] : List Int), 5)) = some (r1, r2) := by rw [if_neg (show ¬ (false = true) by decide)] at H; exact H
  clear H
  have H := H1
  clear H1
  simp only [Option.some.injEq, Prod.mk.injEq] at H
  obtain ⟨rfl, rfl⟩ := H
  go_enter Try.func6, Try.ntmps6
  go_wp2_with (first | ((with_reducible refine gate_dst (N := 1) rfl ?_); refine box_event zr (N := 1) zr (cs := #[.slice A0_0 l0_0.length c0_0]) (t := 26) zg ?_; intro gb101 hg w25 hbox hb; have n_ := y4 (below_step (zB) hb) (hbox) ((zS hg : w.heap.size ≤ gb101)) ((zS hg : w.heap.size ≤ gb101)); clear HB; obtain ⟨HB, BK101, GW101, GE101⟩ := n_; clear hb hbox hg; have hcz26_0 := zc BK101.out; have hfz26_0 := blk_frozen BK101.out 0) | ((with_reducible refine gate_callee (f := 25) rfl ?_); refine goesL_ (some 6) rfl rfl Try.func25 zk rfl #[.agg #[.slice A0_0 l0_0.length c0_0], .bool true] rfl zA ?_; (with_reducible refine (impl_tasksCode.calls _ _ l0_0 true t102 _ ?side1 ?side2 A2.out).mono ?_); (case side1 => exact zC (Kd.C_below HR0_0.out HB.out)); (case side2 => exact HC0_0.out); rintro e w27 ⟨rfl, hb⟩; refine ⟨_, rfl, ?_⟩; have n_ := y2 (zb BK101.out hb) (below_step (zB) hb); clear BK101 HB; obtain ⟨BK101, HB⟩ := n_; (try clear hb); (try clear hb2); (try clear hk); (try clear hi); have hcz28_0 := zc BK101.out; have hfz28_0 := blk_frozen BK101.out 0) | ((with_reducible refine gate_callee (f := 26) rfl ?_); refine goesL_ (some 12) rfl rfl Try.func26 zk rfl #[.agg #[.slice A0_0 l0_0.length c0_0]] rfl zA ?_; (with_reducible refine (impl_Tasks_isHarmonic.calls _ _ l0_0 false _ ?side1 ?side2 A4.out).mono ?_); (case side1 => exact zC (Kd.C_below HR0_0.out HB.out)); (case side2 => exact HC0_0.out); rintro e w29 ⟨rfl, hb⟩; refine ⟨_, rfl, ?_⟩; have n_ := y2 (zb BK101.out hb) (below_step (zB) hb); clear BK101 HB; obtain ⟨BK101, HB⟩ := n_; (try clear hb); (try clear hb2); (try clear hk); (try clear hi)))
  go_ret2
  exact ⟨_, zE, zN, zB⟩
 rw [if_neg c3] at H
 have c3b0 : (t102 == 0) = false := beq_eq_false_iff_ne.mpr c3
 have c3b1 : (t102 != 0) = true := bne_iff_ne.mpr c3
 simp only [Option.some.injEq, Prod.mk.injEq] at H
 obtain ⟨rfl, rfl⟩ := H
 go_enter Try.func6, Try.ntmps6
 go_wp2_with (first | ((with_reducible refine gate_dst (N := 1) rfl ?_); refine box_event zr (N := 1) zr (cs := #[.slice A0_0 l0_0.length c0_0]) (t := 26) zg ?_; intro gb101 hg w30 hbox hb; have n_ := y4 (below_step (zB) hb) (hbox) ((zS hg : w.heap.size ≤ gb101)) ((zS hg : w.heap.size ≤ gb101)); clear HB; obtain ⟨HB, BK101, GW101, GE101⟩ := n_; clear hb hbox hg; have hcz31_0 := zc BK101.out; have hfz31_0 := blk_frozen BK101.out 0) | ((with_reducible refine gate_callee (f := 25) rfl ?_); refine goesL_ (some 6) rfl rfl Try.func25 zk rfl #[.agg #[.slice A0_0 l0_0.length c0_0], .bool true] rfl zA ?_; (with_reducible refine (impl_tasksCode.calls _ _ l0_0 true t102 _ ?side1 ?side2 A2.out).mono ?_); (case side1 => exact zC (Kd.C_below HR0_0.out HB.out)); (case side2 => exact HC0_0.out); rintro e w32 ⟨rfl, hb⟩; refine ⟨_, rfl, ?_⟩; have n_ := y2 (zb BK101.out hb) (below_step (zB) hb); clear BK101 HB; obtain ⟨BK101, HB⟩ := n_; (try clear hb); (try clear hb2); (try clear hk); (try clear hi)))
 go_ret2
 exact ⟨_, zE, zN, zB⟩
end Go.Proofs.Ytgbapmmfhdphmaa.P
end
section
namespace Go.Proofs.Ytgbapmmfhdphmaa.P
open Go.RowKit Go.Proofs.YtgbapmmfhdphmaaW.PrintWords Go.Proofs.YtgbapmmfhdphmaaW.PrintLast Go.Proofs.YtgbapmmfhdphmaaW.PrintMore
attribute [local go_sem] max2_int min2_int max_two min_two max_three min_three max_four min_four   -- for this text's walks alone
set_option linter.unusedVariables false
set_option linter.unusedSimpArgs false
def spec_l01In.f (a0 : Int) (a1 : Int) (a2 : Int) : Option (Bool) := if a0 ≥ a1 then (some (decide (a0 ≤ a2))) else (some false)
set_option maxHeartbeats 8000000 in
set_option maxRecDepth 100000 in
theorem spec_l01In.calls (a0 : Int) (a1 : Int) (a2 : Int) (r : Bool) (w : World) (h : spec_l01In.f a0 a1 a2 = some r) :
    Calls Try.prog 41 #[.int .i64 a0, .int .i64 a1, .int .i64 a2] w fun e w' => e = .returned (.bool r) ∧ Drawn0 w w' := by
 have H : (if a0 ≥ a1 then (some (decide (a0 ≤ a2))) else (some false)) = some r := h
 clear h
 by_cases c4 : a0 ≥ a1
 ·
  rw [if_pos c4] at H
  have c4b0 : decide (a1 ≤ a0) = true := decide_eq_true c4
  clear c4
  obtain rfl := Option.some.inj H
  go_enter Try.func41, Try.ntmps41
  go_wp2
  go_ret
  exact ⟨by first | rfl | (simp; done) | (simp [*]; done), by repeat (first | exact Drawn0.refl _ | apply Drawn0.step)⟩
 rw [if_neg c4] at H
 have c4b0 : decide (a1 ≤ a0) = false := decide_eq_false c4
 clear c4
 obtain rfl := Option.some.inj H
 go_enter Try.func41, Try.ntmps41
 go_wp2
 go_ret
 exact ⟨by first | rfl | (simp; done) | (simp [*]; done), by repeat (first | exact Drawn0.refl _ | apply Drawn0.step)⟩
end Go.Proofs.Ytgbapmmfhdphmaa.P
end
section
namespace Go.Proofs.Ytgbapmmfhdphmaa.P
open Go.RowKit Go.Proofs.YtgbapmmfhdphmaaW.PrintWords Go.Proofs.YtgbapmmfhdphmaaW.PrintLast Go.Proofs.YtgbapmmfhdphmaaW.PrintMore
attribute [local go_sem] max2_int min2_int max_two min_two max_three min_three max_four min_four   -- for this text's walks alone
set_option linter.unusedVariables false
set_option linter.unusedSimpArgs false
def spec_l01Is.l0 : Nat → Int → List Int → Option (Bool)
  | 0, _, _ => none
  | k + 1, x3, x102000 => if x3 < (x102000.length : Int) then (if 0 ≤ x3 then ((spec_l01In.f (rd x102000 x3) 1 40).bind fun t103 => (if t103 = true then (spec_l01Is.l0 k (wrap64 (x3 + 1)) x102000) else (some false))) else (none)) else ((spec_l01K.f x102000).bind fun t104 => ((spec_l01In.f t104 1 8).bind fun t105 => (some t105)))
def spec_l01Is.f (k : Nat) (l0_0 : List Int) : Option (Bool) := spec_l01Is.l0 k 0 l0_0
theorem spec_l01Is.mono_l : ∀ k, (∀ y0 y1, LeO (spec_l01Is.l0 k y0 y1) (spec_l01Is.l0 (k + 1) y0 y1))
  | 0 => fun _ _ r h => by simp [spec_l01Is.l0] at h
  | k + 1 => by
    have ih0 := spec_l01Is.mono_l k
    · intro y0 y1
      unfold spec_l01Is.l0
      repeat' first | (with_reducible exact ih0 _ _) | (with_reducible exact LeO.refl _) | (with_reducible exact LeO.none _) | (with_reducible refine LeO.ite ?_ ?_) | (with_reducible refine LeO.bind ?_ (fun _ => ?_)) | exact ih0 _ _ | exact LeO.none _ | refine LeO.ite ?_ ?_ | refine LeO.bind ?_ (fun _ => ?_)
theorem spec_l01Is.mono : ∀ a0 k, LeO (spec_l01Is.f k a0) (spec_l01Is.f (k + 1) a0) := by
  intro a0 k
  have ih0 := spec_l01Is.mono_l k
  unfold spec_l01Is.f
  repeat' first | (with_reducible exact ih0 _ _) | (with_reducible exact LeO.refl _) | (with_reducible exact LeO.none _) | (with_reducible refine LeO.ite ?_ ?_) | (with_reducible refine LeO.bind ?_ (fun _ => ?_)) | exact ih0 _ _ | exact LeO.none _ | refine LeO.ite ?_ ?_ | refine LeO.bind ?_ (fun _ => ?_)
set_option maxHeartbeats 8000000 in
set_option maxRecDepth 100000 in
theorem spec_l01Is.calls (k : Nat) (A0_0 : Option Addr) (c0_0 : Nat) (l0_0 : List Int) (r : Bool) (w : World) (hr0_0 : Kd.C (Kd.int .i64) w A0_0 l0_0.length l0_0) (hc0_0 : l0_0.length ≤ c0_0) (h : spec_l01Is.f k l0_0 = some r) :
    Calls Try.prog 29 #[.agg #[.slice A0_0 l0_0.length c0_0]] w fun e w' => e = .returned (.bool r) ∧ Below w.heap.size w w' := by
 have hu26 := Try.underlying26
 have HR0_0 := Aside0.mk hr0_0
 have HC0_0 := Aside0.mk hc0_0
 clear hr0_0 hc0_0
 have HB := Aside0.mk (Below.refl w.heap.size w)
 have H : (spec_l01Is.l0 k 0 l0_0) = some r := h
 clear h
 have H' := Aside0.mk H
 clear H
 go_enter Try.func29, Try.ntmps29
 go_wp2_with (first | ((with_reducible refine gate_dst (N := 1) rfl ?_); refine box_event zr (N := 1) zr (cs := #[.slice A0_0 l0_0.length c0_0]) (t := 26) zg ?_; intro gb101 hg w2 hbox hb; have n_ := y4 (below_step (zB) hb) (hbox) ((zS hg : w.heap.size ≤ gb101)) ((zS hg : w.heap.size ≤ gb101)); clear HB; obtain ⟨HB, BK101, GW101, GE101⟩ := n_; clear hb hbox hg))
 go_loopg [3] k (fun kq v3 w' => ∃ (x3_1 : Int), v3 = .int .i64 x3_1 ∧ Aside0 (spec_l01Is.l0 kq x3_1 l0_0 = some r) ∧ Aside0 (kq ≤ k) ∧ Aside0 (w'.heap[gb101]? = some (.cells #[(.slice A0_0 l0_0.length c0_0)] 26 (0, 0))) ∧ Aside0 (Below w.heap.size w w'))
 case atStart => exact ⟨(0), zF, H', ⟨Nat.le_refl _⟩, ⟨zG BK101.out⟩, ⟨zB⟩⟩
 clear H'
 obtain ⟨x3_1, rfl, HA, HK1, BK101, HB⟩ := hrel
 cases gk with
 | zero => exact absurd HA.out (by simp [spec_l01Is.l0])
 | succ k1 =>
   have H := HA.out
   clear HA
   simp only [spec_l01Is.l0] at H
   by_cases c3 : x3_1 < (l0_0.length : Int)
   · rw [if_pos c3] at H
     have c3b0 : decide (x3_1 < (l0_0.length : Int)) = true := decide_eq_true c3
     clear c3
     by_cases c4 : 0 ≤ x3_1
     · rw [if_pos c4] at H
       have c4b0 : decide (0 ≤ x3_1) = true := decide_eq_true c4
       clear c4
       replace H := Option.bind_eq_some_iff.mp H
       obtain ⟨t103, A50, H⟩ := H
       replace H : (if t103 = true then (spec_l01Is.l0 k1 (wrap64 (x3_1 + 1)) l0_0) else (some false)) = some r := H
       have A5 := Aside0.mk A50
       clear A50
       by_cases c6 : t103 = true
       · subst c6
         have H1 : (spec_l01Is.l0 k1 (wrap64 (x3_1 + 1)) l0_0) = some r := by rw [if_pos rfl] at H; exact H
         clear H
         have H := H1
         clear H1
         have H' := Aside0.mk H
         clear H
         have hcz7_0 := zc BK101.out
         have hfz7_0 := blk_frozen BK101.out 0
         have p102 : 0 ≤ (x3_1 : Int) := zD
         have q102 : x3_1 < (l0_0.length : Int) := zD
         obtain ⟨ad102, e102, hx102_0⟩ := Kd.at_int HR0_0.out x3_1 p102 q102
         cases e102
         replace hx102_0 := (HB.out.cell (World.block_lt_of_cell? w _ hx102_0)).trans hx102_0
         replace p102 := eq_true p102
         replace q102 := eq_true q102
         go_wp2_with (first | ((with_reducible refine gate_callee (f := 41) rfl ?_); refine goesL_ (some 16) rfl rfl Try.func41 zk rfl #[.int .i64 (rd l0_0 x3_1), .int .i64 1, .int .i64 40] rfl zA ?_; (with_reducible refine (spec_l01In.calls (rd l0_0 x3_1) 1 40 true _ A5.out).mono ?_); rintro e w' ⟨rfl, ⟨nd, rfl⟩⟩; refine ⟨_, rfl, ?_⟩))
         go_roundg k1
         case measure => have := HK1.out; omega
         case rel => exact ⟨(wrap64 (x3_1 + 1)), zF, H', ⟨by have := HK1.out; omega⟩, ⟨zG BK101.out⟩, ⟨zB⟩⟩
       · replace c6 := Bool.eq_false_iff.mpr c6
         subst c6
         have H1 : (some false) = some r := by rw [if_neg (show ¬ (false = true) by decide)] at H; exact H
         clear H
         have H := H1
         clear H1
         obtain rfl := Option.some.inj H
         have hcz8_0 := zc BK101.out
         have hfz8_0 := blk_frozen BK101.out 0
         have p102 : 0 ≤ (x3_1 : Int) := zD
         have q102 : x3_1 < (l0_0.length : Int) := zD
         obtain ⟨ad102, e102, hx102_0⟩ := Kd.at_int HR0_0.out x3_1 p102 q102
         cases e102
         replace hx102_0 := (HB.out.cell (World.block_lt_of_cell? w _ hx102_0)).trans hx102_0
         replace p102 := eq_true p102
         replace q102 := eq_true q102
         go_wp2_with (first | ((with_reducible refine gate_callee (f := 41) rfl ?_); refine goesL_ (some 16) rfl rfl Try.func41 zk rfl #[.int .i64 (rd l0_0 x3_1), .int .i64 1, .int .i64 40] rfl zA ?_; (with_reducible refine (spec_l01In.calls (rd l0_0 x3_1) 1 40 false _ A5.out).mono ?_); rintro e w' ⟨rfl, ⟨nd, rfl⟩⟩; refine ⟨_, rfl, ?_⟩))
         go_ret
         exact ⟨zE, zB⟩
     · rw [if_neg c4] at H
       exact absurd H (by simp)
   · rw [if_neg c3] at H
     have c3b0 : decide (x3_1 < (l0_0.length : Int)) = false := decide_eq_false c3
     clear c3
     replace H := Option.bind_eq_some_iff.mp H
     obtain ⟨t104, A90, H⟩ := H
     replace H : ((spec_l01In.f t104 1 8).bind fun t105 => (some t105)) = some r := H
     have A9 := Aside0.mk A90
     clear A90
     replace H := Option.bind_eq_some_iff.mp H
     obtain ⟨t105, A100, H⟩ := H
     replace H : (some t105) = some r := H
     have A10 := Aside0.mk A100
     clear A100
     obtain rfl := Option.some.inj H
     have hcz11_0 := zc BK101.out
     have hfz11_0 := blk_frozen BK101.out 0
     go_wp2_with (first | ((with_reducible refine gate_callee (f := 46) rfl ?_); refine goesL_ (some 19) rfl rfl Try.func46 zk rfl #[.agg #[.slice A0_0 l0_0.length c0_0]] rfl zA ?_; (with_reducible refine (spec_l01K.calls _ _ l0_0 t104 _ ?side1 ?side2 A9.out).mono ?_); (case side1 => exact zC (Kd.C_below HR0_0.out HB.out)); (case side2 => exact HC0_0.out); rintro e w12 ⟨rfl, hb⟩; refine ⟨_, rfl, ?_⟩; have n_ := y2 (zb BK101.out hb) (below_step (zB) hb); clear BK101 HB; obtain ⟨BK101, HB⟩ := n_; (try clear hb); (try clear hb2); (try clear hk); (try clear hi)) | ((with_reducible refine gate_callee (f := 41) rfl ?_); refine goesL_ (some 20) rfl rfl Try.func41 zk rfl #[.int .i64 t104, .int .i64 1, .int .i64 8] rfl zA ?_; (with_reducible refine (spec_l01In.calls t104 1 8 t105 _ A10.out).mono ?_); rintro e w' ⟨rfl, ⟨nd, rfl⟩⟩; refine ⟨_, rfl, ?_⟩))
     go_ret
     exact ⟨zE, zB⟩
end Go.Proofs.Ytgbapmmfhdphmaa.P
end
section
namespace Go.Proofs.Ytgbapmmfhdphmaa.P
open Go.RowKit Go.Proofs.YtgbapmmfhdphmaaW.PrintWords Go.Proofs.YtgbapmmfhdphmaaW.PrintLast Go.Proofs.YtgbapmmfhdphmaaW.PrintMore
attribute [local go_sem] max2_int min2_int max_two min_two max_three min_three max_four min_four   -- for this text's walks alone
set_option linter.unusedVariables false
set_option linter.unusedSimpArgs false
mutual
def spec_l03Harmonic.l0 : Nat → Int → List Int → Option (Bool)
  | 0, _, _ => none
  | k + 1, x3, x102000 => if x3 < (x102000.length : Int) then (spec_l03Harmonic.l1 k x3 0 x102000) else (some true)
def spec_l03Harmonic.l1 : Nat → Int → Int → List Int → Option (Bool)
  | 0, _, _, _ => none
  | k + 1, x3, x4, x102000 => if x4 < x3 then (if 0 ≤ x3 then (if x3 < (x102000.length : Int) then (if 0 ≤ x4 then (if x4 < (x102000.length : Int) then (if (rd x102000 x4) = 0 then (none) else (if (Int.tmod (rd x102000 x3) (rd x102000 x4)) = 0 then (spec_l03Harmonic.l1 k x3 (wrap64 (x4 + 1)) x102000) else (if (rd x102000 x3) = 0 then (none) else (if (Int.tmod (rd x102000 x4) (rd x102000 x3)) = 0 then (spec_l03Harmonic.l1 k x3 (wrap64 (x4 + 1)) x102000) else (some false))))) else (none)) else (none)) else (none)) else (none)) else (spec_l03Harmonic.l0 k (wrap64 (x3 + 1)) x102000)
end
def spec_l03Harmonic.f (k : Nat) (l0_0 : List Int) : Option (Bool) := spec_l03Harmonic.l0 k 0 l0_0
theorem spec_l03Harmonic.mono_l : ∀ k, (∀ y0 y1, LeO (spec_l03Harmonic.l0 k y0 y1) (spec_l03Harmonic.l0 (k + 1) y0 y1)) ∧ (∀ y0 y1 y2, LeO (spec_l03Harmonic.l1 k y0 y1 y2) (spec_l03Harmonic.l1 (k + 1) y0 y1 y2))
  | 0 => ⟨fun _ _ r h => by simp [spec_l03Harmonic.l0] at h, fun _ _ _ r h => by simp [spec_l03Harmonic.l1] at h⟩
  | k + 1 => by
    obtain ⟨ih0, ih1⟩ := spec_l03Harmonic.mono_l k
    refine ⟨?_, ?_⟩ <;> intros <;> (first | unfold spec_l03Harmonic.l0 | unfold spec_l03Harmonic.l1) <;> repeat' first | (with_reducible exact ih0 _ _) | (with_reducible exact ih1 _ _ _) | (with_reducible exact LeO.refl _) | (with_reducible exact LeO.none _) | (with_reducible refine LeO.ite ?_ ?_) | (with_reducible refine LeO.bind ?_ (fun _ => ?_)) | exact ih0 _ _ | exact ih1 _ _ _ | exact LeO.none _ | refine LeO.ite ?_ ?_ | refine LeO.bind ?_ (fun _ => ?_)
theorem spec_l03Harmonic.mono : ∀ a0 k, LeO (spec_l03Harmonic.f k a0) (spec_l03Harmonic.f (k + 1) a0) := by
  intro a0 k
  obtain ⟨ih0, ih1⟩ := spec_l03Harmonic.mono_l k
  unfold spec_l03Harmonic.f
  repeat' first | (with_reducible exact ih0 _ _) | (with_reducible exact ih1 _ _ _) | (with_reducible exact LeO.refl _) | (with_reducible exact LeO.none _) | (with_reducible refine LeO.ite ?_ ?_) | (with_reducible refine LeO.bind ?_ (fun _ => ?_)) | exact ih0 _ _ | exact ih1 _ _ _ | exact LeO.none _ | refine LeO.ite ?_ ?_ | refine LeO.bind ?_ (fun _ => ?_)
set_option maxHeartbeats 8000000 in
set_option maxRecDepth 100000 in
theorem spec_l03Harmonic.calls (k : Nat) (A0_0 : Option Addr) (c0_0 : Nat) (l0_0 : List Int) (r : Bool) (w : World) (hr0_0 : Kd.C (Kd.int .i64) w A0_0 l0_0.length l0_0) (hc0_0 : l0_0.length ≤ c0_0) (h : spec_l03Harmonic.f k l0_0 = some r) :
    Calls Try.prog 30 #[.agg #[.slice A0_0 l0_0.length c0_0]] w fun e w' => e = .returned (.bool r) ∧ Below w.heap.size w w' := by
 have hu26 := Try.underlying26
 have HR0_0 := Aside0.mk hr0_0
 have HC0_0 := Aside0.mk hc0_0
 clear hr0_0 hc0_0
 have HB := Aside0.mk (Below.refl w.heap.size w)
 have H : (spec_l03Harmonic.l0 k 0 l0_0) = some r := h
 clear h
 have H' := Aside0.mk H
 clear H
 go_enter Try.func30, Try.ntmps30
 go_wp2_with (first | ((with_reducible refine gate_dst (N := 1) rfl ?_); refine box_event zr (N := 1) zr (cs := #[.slice A0_0 l0_0.length c0_0]) (t := 26) zg ?_; intro gb101 hg w2 hbox hb; have n_ := y4 (below_step (zB) hb) (hbox) ((zS hg : w.heap.size ≤ gb101)) ((zS hg : w.heap.size ≤ gb101)); clear HB; obtain ⟨HB, BK101, GW101, GE101⟩ := n_; clear hb hbox hg))
 repeat (go_quiet (first | ((with_reducible refine gate_dst (N := 1) rfl ?_); refine box_event zr (N := 1) zr (cs := #[.slice A0_0 l0_0.length c0_0]) (t := 26) zg ?_; intro gb101 hg w2 hbox hb; have n_ := y4 (below_step (zB) hb) (hbox) ((zS hg : w.heap.size ≤ gb101)) ((zS hg : w.heap.size ≤ gb101)); clear HB; obtain ⟨HB, BK101, GW101, GE101⟩ := n_; clear hb hbox hg)); try go_wp2_with (first | ((with_reducible refine gate_dst (N := 1) rfl ?_); refine box_event zr (N := 1) zr (cs := #[.slice A0_0 l0_0.length c0_0]) (t := 26) zg ?_; intro gb101 hg w2 hbox hb; have n_ := y4 (below_step (zB) hb) (hbox) ((zS hg : w.heap.size ≤ gb101)) ((zS hg : w.heap.size ≤ gb101)); clear HB; obtain ⟨HB, BK101, GW101, GE101⟩ := n_; clear hb hbox hg)))
 go_loopg [3] k (fun kq v3 w' => ∃ (x3_1 : Int), v3 = .int .i64 x3_1 ∧ Aside0 (spec_l03Harmonic.l0 kq x3_1 l0_0 = some r) ∧ Aside0 (kq ≤ k) ∧ Aside0 (w'.heap[gb101]? = some (.cells #[(.slice A0_0 l0_0.length c0_0)] 26 (0, 0))) ∧ Aside0 (Below w.heap.size w w'))
 case atStart => exact ⟨(0), zF, H', ⟨Nat.le_refl _⟩, ⟨zG BK101.out⟩, ⟨zB⟩⟩
 clear H'
 obtain ⟨x3_1, rfl, HA, HK1, BK101, HB⟩ := hrel
 cases gk with
 | zero => exact absurd HA.out (by simp [spec_l03Harmonic.l0])
 | succ k1 =>
   have H := HA.out
   clear HA
   simp only [spec_l03Harmonic.l0] at H
   by_cases c3 : x3_1 < (l0_0.length : Int)
   · rw [if_pos c3] at H
     have c3b0 : decide (x3_1 < (l0_0.length : Int)) = true := decide_eq_true c3
     clear c3
     have H' := Aside0.mk H
     clear H
     have hcz4_0 := zc BK101.out
     have hfz4_0 := blk_frozen BK101.out 0
     go_wp2
     repeat (go_quiet (fail); try go_wp2)
     go_loopg [4] k1 (fun kq v4 w' => ∃ (x4_2 : Int), v4 = .int .i64 x4_2 ∧ Aside0 (spec_l03Harmonic.l1 kq x3_1 x4_2 l0_0 = some r) ∧ Aside0 (kq ≤ k1) ∧ Aside0 (w'.heap[gb101]? = some (.cells #[(.slice A0_0 l0_0.length c0_0)] 26 (0, 0))) ∧ Aside0 (Below w.heap.size w w'))
     case atStart => exact ⟨(0), zF, H', ⟨Nat.le_refl _⟩, ⟨zG BK101.out⟩, ⟨zB⟩⟩
     case round =>
       clear H'
       try clear c3
       try clear c3b0
       try clear hcz4_0
       try clear hfz4_0
       obtain ⟨x4_2, rfl, HA, HK2, BK101, HB⟩ := hrel
       cases gk with
       | zero => exact absurd HA.out (by simp [spec_l03Harmonic.l1])
       | succ k2 =>
         have H := HA.out
         clear HA
         simp only [spec_l03Harmonic.l1] at H
         by_cases c5 : x4_2 < x3_1
         · rw [if_pos c5] at H
           have c5b0 : decide (x4_2 < x3_1) = true := decide_eq_true c5
           clear c5
           by_cases c6 : 0 ≤ x3_1
           · rw [if_pos c6] at H
             have c6b0 : decide (0 ≤ x3_1) = true := decide_eq_true c6
             clear c6
             by_cases c7 : x3_1 < (l0_0.length : Int)
             · rw [if_pos c7] at H
               have c7b0 : decide (x3_1 < (l0_0.length : Int)) = true := decide_eq_true c7
               clear c7
               by_cases c8 : 0 ≤ x4_2
               · rw [if_pos c8] at H
                 have c8b0 : decide (0 ≤ x4_2) = true := decide_eq_true c8
                 clear c8
                 by_cases c9 : x4_2 < (l0_0.length : Int)
                 · rw [if_pos c9] at H
                   have c9b0 : decide (x4_2 < (l0_0.length : Int)) = true := decide_eq_true c9
                   clear c9
                   by_cases c10 : (rd l0_0 x4_2) = 0
                   · rw [if_pos c10] at H
                     exact absurd H (by simp)
                   · rw [if_neg c10] at H
                     have c10b0 : ((rd l0_0 x4_2) == 0) = false := beq_eq_false_iff_ne.mpr c10
                     have c10b1 : ((rd l0_0 x4_2) != 0) = true := bne_iff_ne.mpr c10
                     by_cases c11 : (Int.tmod (rd l0_0 x3_1) (rd l0_0 x4_2)) = 0
                     · rw [if_pos c11] at H
                       have c11b0 : ((Int.tmod (rd l0_0 x3_1) (rd l0_0 x4_2)) == 0) = true := beq_iff_eq.mpr c11
                       have c11b1 : ((Int.tmod (rd l0_0 x3_1) (rd l0_0 x4_2)) != 0) = false := bne_eq_false_iff_eq.mpr c11
                       clear c11
                       have H' := Aside0.mk H
                       clear H
                       have hcz12_0 := zc BK101.out
                       have hfz12_0 := blk_frozen BK101.out 0
                       have p102 : 0 ≤ (x3_1 : Int) := zD
                       have q102 : x3_1 < (l0_0.length : Int) := zD
                       obtain ⟨ad102, e102, hx102_0⟩ := Kd.at_int HR0_0.out x3_1 p102 q102
                       cases e102
                       replace hx102_0 := (HB.out.cell (World.block_lt_of_cell? w _ hx102_0)).trans hx102_0
                       replace p102 := eq_true p102
                       replace q102 := eq_true q102
                       have p103 : 0 ≤ (x4_2 : Int) := zD
                       have q103 : x4_2 < (l0_0.length : Int) := zD
                       obtain ⟨ad103, e103, hx103_0⟩ := Kd.at_int HR0_0.out x4_2 p103 q103
                       obtain rfl : ad102 = ad103 := (by injection e103)
                       replace hx103_0 := (HB.out.cell (World.block_lt_of_cell? w _ hx103_0)).trans hx103_0
                       replace p103 := eq_true p103
                       replace q103 := eq_true q103
                       go_wp2
                       repeat (go_quiet (fail); try go_wp2)
                       go_roundg k2
                       case measure => have := HK1.out; have := HK2.out; omega
                       case rel => exact ⟨(wrap64 (x4_2 + 1)), zF, H', ⟨by have := HK1.out; have := HK2.out; omega⟩, ⟨zG BK101.out⟩, ⟨zB⟩⟩
                     · rw [if_neg c11] at H
                       have c11b0 : ((Int.tmod (rd l0_0 x3_1) (rd l0_0 x4_2)) == 0) = false := beq_eq_false_iff_ne.mpr c11
                       have c11b1 : ((Int.tmod (rd l0_0 x3_1) (rd l0_0 x4_2)) != 0) = true := bne_iff_ne.mpr c11
                       by_cases c13 : (rd l0_0 x3_1) = 0
                       · rw [if_pos c13] at H
                         exact absurd H (by simp)
                       · rw [if_neg c13] at H
                         have c13b0 : ((rd l0_0 x3_1) == 0) = false := beq_eq_false_iff_ne.mpr c13
                         have c13b1 : ((rd l0_0 x3_1) != 0) = true := bne_iff_ne.mpr c13
                         by_cases c14 : (Int.tmod (rd l0_0 x4_2) (rd l0_0 x3_1)) = 0
                         · rw [if_pos c14] at H
                           have c14b0 : ((Int.tmod (rd l0_0 x4_2) (rd l0_0 x3_1)) == 0) = true := beq_iff_eq.mpr c14
                           have c14b1 : ((Int.tmod (rd l0_0 x4_2) (rd l0_0 x3_1)) != 0) = false := bne_eq_false_iff_eq.mpr c14
                           clear c14
                           have H' := Aside0.mk H
                           clear H
                           have hcz15_0 := zc BK101.out
                           have hfz15_0 := blk_frozen BK101.out 0
                           have p102 : 0 ≤ (x3_1 : Int) := zD
                           have q102 : x3_1 < (l0_0.length : Int) := zD
                           obtain ⟨ad102, e102, hx102_0⟩ := Kd.at_int HR0_0.out x3_1 p102 q102
                           cases e102
                           replace hx102_0 := (HB.out.cell (World.block_lt_of_cell? w _ hx102_0)).trans hx102_0
                           replace p102 := eq_true p102
                           replace q102 := eq_true q102
                           have p103 : 0 ≤ (x4_2 : Int) := zD
                           have q103 : x4_2 < (l0_0.length : Int) := zD
                           obtain ⟨ad103, e103, hx103_0⟩ := Kd.at_int HR0_0.out x4_2 p103 q103
                           obtain rfl : ad102 = ad103 := (by injection e103)
                           replace hx103_0 := (HB.out.cell (World.block_lt_of_cell? w _ hx103_0)).trans hx103_0
                           replace p103 := eq_true p103
                           replace q103 := eq_true q103
                           have p104 : 0 ≤ (x4_2 : Int) := zD
                           have q104 : x4_2 < (l0_0.length : Int) := zD
                           obtain ⟨ad104, e104, hx104_0⟩ := Kd.at_int HR0_0.out x4_2 p104 q104
                           obtain rfl : ad102 = ad104 := (by injection e104)
                           replace hx104_0 := (HB.out.cell (World.block_lt_of_cell? w _ hx104_0)).trans hx104_0
                           replace p104 := eq_true p104
                           replace q104 := eq_true q104
                           have p105 : 0 ≤ (x3_1 : Int) := zD
                           have q105 : x3_1 < (l0_0.length : Int) := zD
                           obtain ⟨ad105, e105, hx105_0⟩ := Kd.at_int HR0_0.out x3_1 p105 q105
                           obtain rfl : ad102 = ad105 := (by injection e105)
                           replace hx105_0 := (HB.out.cell (World.block_lt_of_cell? w _ hx105_0)).trans hx105_0
                           replace p105 := eq_true p105
                           replace q105 := eq_true q105
                           go_wp2
                           repeat (go_quiet (fail); try go_wp2)
                           go_roundg k2
                           case measure => have := HK1.out; have := HK2.out; omega
                           case rel => exact ⟨(wrap64 (x4_2 + 1)), zF, H', ⟨by have := HK1.out; have := HK2.out; omega⟩, ⟨zG BK101.out⟩, ⟨zB⟩⟩
                         · rw [if_neg c14] at H
                           have c14b0 : ((Int.tmod (rd l0_0 x4_2) (rd l0_0 x3_1)) == 0) = false := beq_eq_false_iff_ne.mpr c14
                           have c14b1 : ((Int.tmod (rd l0_0 x4_2) (rd l0_0 x3_1)) != 0) = true := bne_iff_ne.mpr c14
                           obtain rfl := Option.some.inj H
                           have hcz16_0 := zc BK101.out
                           have hfz16_0 := blk_frozen BK101.out 0
                           have p102 : 0 ≤ (x3_1 : Int) := zD
                           have q102 : x3_1 < (l0_0.length : Int) := zD
                           obtain ⟨ad102, e102, hx102_0⟩ := Kd.at_int HR0_0.out x3_1 p102 q102
                           cases e102
                           replace hx102_0 := (HB.out.cell (World.block_lt_of_cell? w _ hx102_0)).trans hx102_0
                           replace p102 := eq_true p102
                           replace q102 := eq_true q102
                           have p103 : 0 ≤ (x4_2 : Int) := zD
                           have q103 : x4_2 < (l0_0.length : Int) := zD
                           obtain ⟨ad103, e103, hx103_0⟩ := Kd.at_int HR0_0.out x4_2 p103 q103
                           obtain rfl : ad102 = ad103 := (by injection e103)
                           replace hx103_0 := (HB.out.cell (World.block_lt_of_cell? w _ hx103_0)).trans hx103_0
                           replace p103 := eq_true p103
                           replace q103 := eq_true q103
                           have p104 : 0 ≤ (x4_2 : Int) := zD
                           have q104 : x4_2 < (l0_0.length : Int) := zD
                           obtain ⟨ad104, e104, hx104_0⟩ := Kd.at_int HR0_0.out x4_2 p104 q104
                           obtain rfl : ad102 = ad104 := (by injection e104)
                           replace hx104_0 := (HB.out.cell (World.block_lt_of_cell? w _ hx104_0)).trans hx104_0
                           replace p104 := eq_true p104
                           replace q104 := eq_true q104
                           have p105 : 0 ≤ (x3_1 : Int) := zD
                           have q105 : x3_1 < (l0_0.length : Int) := zD
                           obtain ⟨ad105, e105, hx105_0⟩ := Kd.at_int HR0_0.out x3_1 p105 q105
                           obtain rfl : ad102 = ad105 := (by injection e105)
                           replace hx105_0 := (HB.out.cell (World.block_lt_of_cell? w _ hx105_0)).trans hx105_0
                           replace p105 := eq_true p105
                           replace q105 := eq_true q105
                           go_wp2
                           repeat (go_quiet (fail); try go_wp2)
                           go_ret
                           exact ⟨zE, zB⟩
                 · rw [if_neg c9] at H
                   exact absurd H (by simp)
               · rw [if_neg c8] at H
                 exact absurd H (by simp)
             · rw [if_neg c7] at H
               exact absurd H (by simp)
           · rw [if_neg c6] at H
             exact absurd H (by simp)
         · rw [if_neg c5] at H
           have c5b0 : decide (x4_2 < x3_1) = false := decide_eq_false c5
           clear c5
           have H' := Aside0.mk H
           clear H
           go_wp2
           repeat (go_quiet (fail); try go_wp2)
           go_roundg k2
           case measure => have := HK1.out; have := HK2.out; omega
           case rel => exact ⟨(wrap64 (x3_1 + 1)), zF, H', ⟨by have := HK1.out; have := HK2.out; omega⟩, ⟨zG BK101.out⟩, ⟨zB⟩⟩
   · rw [if_neg c3] at H
     have c3b0 : decide (x3_1 < (l0_0.length : Int)) = false := decide_eq_false c3
     clear c3
     obtain rfl := Option.some.inj H
     have hcz17_0 := zc BK101.out
     have hfz17_0 := blk_frozen BK101.out 0
     go_wp2
     repeat (go_quiet (fail); try go_wp2)
     go_ret
     exact ⟨zE, zB⟩
end Go.Proofs.Ytgbapmmfhdphmaa.P
end
section
namespace Go.Proofs.Ytgbapmmfhdphmaa.P
open Go.RowKit Go.Proofs.YtgbapmmfhdphmaaW.PrintWords Go.Proofs.YtgbapmmfhdphmaaW.PrintLast Go.Proofs.YtgbapmmfhdphmaaW.PrintMore
attribute [local go_sem] max2_int min2_int max_two min_two max_three min_three max_four min_four   -- for this text's walks alone
set_option linter.unusedVariables false
set_option linter.unusedSimpArgs false
end Go.Proofs.Ytgbapmmfhdphmaa.P
end
