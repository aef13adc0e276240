/- THE WALK of FlowFair. Conditions: the arguments are ints and slices of ints. -/
import Derived.Test.YtdpkplnffemmgaaFsteps
namespace Go.Proofs.Ytdpkplnffemmgaa
open Go.RowKit

def MaxOf (A : List Int) (k : Nat) (m : Int) : Prop := 0 ≤ m ∧ m ≤ 1000 ∧ ∀ j, j < k → A.getD j 0 ≤ m
theorem MaxOf.step {A : List Int} {k : Nat} {m c : Int} (h : MaxOf A k m) (hc : A.getD k 0 = c) (hb : c ≤ 1000) : MaxOf A (k + 1) (if m < c then c else m) := by
  refine ⟨?_, ?_, fun j hj => ?_⟩
  · have := h.1; split <;> omega
  · have := h.2.1; split <;> omega
  · by_cases e : j = k
    · subst e; rw [hc]; split <;> omega
    · have := h.2.2 j (by omega)
      split <;> omega
def L1 (w : World) (F : FB) (v u : Int) (A B : List Int) (va vb vi : Value) (wr : World) : Prop :=
  ∃ (i : Nat) (mA mB : Int), vi = .int .i64 i ∧ va = .int .i64 mA ∧ vb = .int .i64 mB ∧ i ≤ max A.length B.length ∧ MaxOf A (min i A.length) mA ∧ MaxOf B (min i B.length) mB ∧ Off1 w F v u A B (min i A.length) (min i B.length) wr

def L2 (w : World) (F : FB) (v u : Int) (A B : List Int) (K : Nat) (ga gb da db vj : Value) (wr : World) : Prop :=
  ∃ p q j : Nat, ga = .int .i64 (sumTo A p) ∧ gb = .int .i64 (sumTo B q) ∧ da = .int .i64 p ∧ db = .int .i64 q ∧ vj = .int .i64 j ∧ j ≤ K ∧ Off2 w F v u A B p q wr ∧ Even (2520 / v) (2520 / u) A B p q ∧
    ((p < A.length ∧ q < B.length) ∨ (p = 0 ∧ q = 0))

theorem mul_bd {x y a b : Int} (h0 : 0 ≤ x) (h1 : x ≤ a) (h2 : 0 ≤ y) (h3 : y ≤ b) : 0 ≤ x * y ∧ x * y ≤ a * b :=
  ⟨Int.mul_nonneg h0 h2, Int.le_trans (Int.mul_le_mul_of_nonneg_right h1 h2) (Int.mul_le_mul_of_nonneg_left h3 (by omega))⟩

set_option maxHeartbeats 4000000 in
set_option maxRecDepth 100000 in
theorem fair_walk (v0 w0 many : Int) (ao bo : Option Addr) (la ca lb cb : Nat) (za zb : List Int) (w : World)
  (hv0 : -9223372036854775808 ≤ v0) (hv1 : v0 ≤ 9223372036854775807) (hw0 : -9223372036854775808 ≤ w0) (hw1 : w0 ≤ 9223372036854775807) (hm0 : -9223372036854775808 ≤ many) (hm1 : many ≤ 9223372036854775807)
  (hA : IntArg w ao la za) (hB : IntArg w bo lb zb) (hla : la ≤ ca) (hca : ca ≤ 9223372036854775807) (hlb : lb ≤ cb) (hcb : cb ≤ 9223372036854775807) :
  Calls Try.prog 3 #[.int .i64 v0, .int .i64 w0, .slice ao la ca, .slice bo lb cb, .int .i64 many] w fun e w' => e = .returned (.bool true) ∧ Below w.heap.size w w' := by
  have CV := Lib.hid (rest_any v0 10 w (by omega) (by omega) hv0 hv1)
  have CW := Lib.hid (rest_any w0 10 w (by omega) (by omega) hw0 hw1)
  have e0 := Int.emod_nonneg v0 (show (10 : Int) ≠ 0 by omega)
  have e1 := Int.emod_lt_of_pos v0 (show (0 : Int) < 10 by omega)
  have f0 := Int.emod_nonneg w0 (show (10 : Int) ≠ 0 by omega)
  have f1 := Int.emod_lt_of_pos w0 (show (0 : Int) < 10 by omega)
  generalize v0 % 10 = v1 at *
  generalize w0 % 10 = w1 at *
  obtain ⟨v, hv⟩ : ∃ v, 1 + v1 = v := ⟨_, rfl⟩
  obtain ⟨u, hu⟩ : ∃ u, 1 + w1 = u := ⟨_, rfl⟩
  have hvb : 1 ≤ v ∧ v ≤ 10 := by omega
  have hub : 1 ≤ u ∧ u ≤ 10 := by omega
  have hws : ([v, u] : List Int).all wOk = true := by simp [wOk]; omega
  have CN := Lib.hid (new_good w.heap.size 0 2 2 [v, u] (w.alloc (.cells #[.int .i64 v, .int .i64 u] 3)) rfl (by omega) (by omega) (by omega) (by omega) (by simp)
    (fun i hi => by
      match i, hi with
      | 0, _ => simp
      | 1, _ => simp) hws)
  clear hws
  obtain ⟨na, hna, hnaI, hnaN⟩ : ∃ na : Nat, (na ≤ la ∧ na ≤ 30) ∧ (if (30 : Int) < (la : Int) then (30 : Int) else (la : Int)) = (na : Int) ∧ (if 30 < la then (30 : Int) else (la : Int)) = (na : Int) := by
    by_cases h : 30 < la
    · exact ⟨30, ⟨by omega, by omega⟩, by rw [if_pos (by omega)]; rfl, by rw [if_pos h]; rfl⟩
    · exact ⟨la, ⟨by omega, by omega⟩, by rw [if_neg (by omega)], by rw [if_neg h]⟩
  obtain ⟨nb, hnb, hnbI, hnbN⟩ : ∃ nb : Nat, (nb ≤ lb ∧ nb ≤ 30) ∧ (if (30 : Int) < (lb : Int) then (30 : Int) else (lb : Int)) = (nb : Int) ∧ (if 30 < lb then (30 : Int) else (lb : Int)) = (nb : Int) := by
    by_cases h : 30 < lb
    · exact ⟨30, ⟨by omega, by omega⟩, by rw [if_pos (by omega)]; rfl, by rw [if_pos h]; rfl⟩
    · exact ⟨lb, ⟨by omega, by omega⟩, by rw [if_neg (by omega)], by rw [if_neg h]⟩
  obtain ⟨n, hn, hnI, hnN⟩ : ∃ n : Nat, n = max na nb ∧ (if (na : Int) < (nb : Int) then (nb : Int) else (na : Int)) = (n : Int) ∧ (if na < nb then (nb : Int) else (na : Int)) = (n : Int) := by
    by_cases h : na < nb
    · exact ⟨nb, by omega, by rw [if_pos (by omega)], by rw [if_pos h]⟩
    · exact ⟨na, by omega, by rw [if_neg (by omega)], by rw [if_neg h]⟩
  obtain ⟨A, hAd⟩ : ∃ A, csts za na = A := ⟨_, rfl⟩
  obtain ⟨B, hBd⟩ : ∃ B, csts zb nb = B := ⟨_, rfl⟩
  have hAl : A.length = na := by rw [← hAd]; exact csts_length _ _ (by have := hA.1; omega)
  have hBl : B.length = nb := by rw [← hBd]; exact csts_length _ _ (by have := hB.1; omega)
  have hAc : Costs A := by rw [← hAd]; exact csts_costs _ _
  have hBc : Costs B := by rw [← hBd]; exact csts_costs _ _
  have CA : Hid (∀ i, i < na → ∀ W, Below w.heap.size w W → Calls Try.prog 8 #[.slice ao na ca, .int .i64 i] W fun e w' => e = .returned (.int .i64 (A.getD i 0)) ∧ W = w') := fun i hi W hW => by
    have := cost_any ao na ca i za W ((hA.chg hW).less hna.1) hi (by omega) hca
    rw [← csts_get za na i (by have := hA.1; omega) hi, hAd] at this
    exact this
  have CB : Hid (∀ i, i < nb → ∀ W, Below w.heap.size w W → Calls Try.prog 8 #[.slice bo nb cb, .int .i64 i] W fun e w' => e = .returned (.int .i64 (B.getD i 0)) ∧ W = w') := fun i hi W hW => by
    have := cost_any bo nb cb i zb W ((hB.chg hW).less hnb.1) hi (by omega) hcb
    rw [← csts_get zb nb i (by have := hB.1; omega) hi, hBd] at this
    exact this
  have HAL := Lib.hid hAl
  have HBL := Lib.hid hBl
  have HN := Lib.hid hn
  have HAC := Lib.hid hAc
  have HBC := Lib.hid hBc
  clear hAd hBd hAl hBl hAc hBc hn hA hB
  have hn30 : n ≤ 30 := by have := HN.out; omega
  go_enter Try.func3, Try.ntmps3
  go_wp2_with fail
  refine CV.out.mono ?_
  rintro e w' ⟨rfl, rfl⟩
  go_wp2_with fail
  refine CW.out.mono ?_
  rintro e w' ⟨rfl, rfl⟩
  go_wp2_with fail
  refine CN.out.mono ?_
  rintro e w1 ⟨F, rfl, hf, hch, hb1, hb2, hb3⟩
  clear CV CW CN
  have CO := Lib.hid (offer_none F [v, u] _ 0 _ [] 2 0 1 w1 hf (.inr (by simp)))
  have hbel1 : Below w.heap.size w w1 := (((Below.refl _ w).alloc (Nat.le_refl _) _)).trans (hch.below (by simp) (by simp))
  have HO : Hid (Off1 w F v u A B 0 0 w1) := ⟨⟨_, [], by simpa [sumTo_zero] using hf, fun k h0 hk => by simp at hk, by simp [offs], by simp at hb1 hb2 hb3; exact ⟨by omega, by omega, by omega, by simp [Value.ownBlock]⟩⟩, hbel1⟩
  clear hf hch e0 e1 f0 f1 hv hu hb1 hb2 hb3 hbel1
  go_wp2_with fail
  refine CO.out.mono ?_
  rintro e w' ⟨rfl, rfl⟩
  go_wp2_with fail
  go_quiet (fail)
  go_wp2_with fail
  have H0 : Hid (L1 w F v u A B (.int .i64 0) (.int .i64 0) (.int .i64 0) (w1.drewN nq)) := ⟨0, 0, 0, rfl, rfl, rfl, by omega, ⟨by omega, by omega, fun j hj => by omega⟩, ⟨by omega, by omega, fun j hj => by omega⟩, by
    obtain ⟨⟨qv, ts, hf, r⟩, hb⟩ := HO.out
    simp only [Nat.zero_min]
    exact ⟨⟨qv, ts, hf.chg ((Chg.refl [] w1).drewN nq) (by simp) (by simp) (by simp) (by simp), r⟩, ⟨hb.os, hb.tape, hb.output, hb.size, hb.block⟩⟩⟩
  clear HO CO
  go_loopw [14, 15, 64] (fun va vb vi wr => L1 w F v u A B va vb vi wr) (fun _ _ vi _ => n - (intOf vi).toNat)
  case atStart => exact H0.out
  case round =>
    clear H0
    obtain ⟨i, mA, mB, rfl, rfl, rfl, hi, hmA, hmB, hoff⟩ := hrel
    have hin : i ≤ n := by have := HN.out; have := HAL.out; have := HBL.out; omega
    have HMA := Lib.hid hmA
    have HMB := Lib.hid hmB
    have HOFF := Lib.hid hoff
    clear hi hmA hmB hoff
    by_cases hlt : i < n
    · by_cases ha : i < na
      · by_cases hb : i < nb
        · skip
          have ea : min i A.length = i := by have := HAL.out; omega
          have ea1 : min (i + 1) A.length = i + 1 := by have := HAL.out; omega
          have hcA := HAC.out.at i (by have := HAL.out; omega)
          have c1 := Lib.hid (CA.out i ha wr HOFF.out.below)
          obtain ⟨c, hc⟩ : ∃ c, A.getD i 0 = c := ⟨_, rfl⟩
          obtain ⟨mA', hmA'⟩ : ∃ mA', (if mA < c then c else mA) = mA' := ⟨_, rfl⟩
          have o1 := HOFF.out
          have m1 := HMA.out
          rw [ea] at o1 m1
          have m2 := m1.step hc (by rw [hc] at hcA; omega)
          rw [hmA'] at m2
          have HM2 := Lib.hid m2
          have CO1 := Lib.hid (offerA o1 hvb HAC.out HBC.out (by have := HAL.out; omega) (by have := HAL.out; omega) (by omega) (by have := HBL.out; omega) c hc)
          rw [hc] at c1 hcA
          have hmb := m1.2.1
          have hma := m1.1
          have HEA1 := Lib.hid ea1
          clear ea ea1 o1 m1 m2 hc
          go_wp2_with fail
          refine c1.out.mono ?_
          rintro e w' ⟨rfl, rfl⟩
          go_wp2_with fail
          refine c1.out.mono ?_
          rintro e w' ⟨rfl, rfl⟩
          go_wp2_with fail
          refine CO1.out.mono ?_
          rintro e w2 ⟨rfl, ho2⟩
          have HO2 := Lib.hid ho2
          clear ho2 hmA' hcA hmb hma
          have eb : min i B.length = i := by have := HBL.out; omega
          have eb1 : min (i + 1) B.length = i + 1 := by have := HBL.out; omega
          have hcB := HBC.out.at i (by have := HBL.out; omega)
          have c1b := Lib.hid (CB.out i hb w2 HO2.out.below)
          obtain ⟨cb', hcb'⟩ : ∃ c, B.getD i 0 = c := ⟨_, rfl⟩
          obtain ⟨mB', hmB'⟩ : ∃ mB', (if mB < cb' then cb' else mB) = mB' := ⟨_, rfl⟩
          have o1b := HO2.out
          have m1b := HMB.out
          rw [eb] at o1b m1b
          have m2b := m1b.step hcb' (by rw [hcb'] at hcB; omega)
          rw [hmB'] at m2b
          have HM2B := Lib.hid m2b
          have CO1B := Lib.hid (offerB o1b hub HAC.out HBC.out (by have := HBL.out; omega) (by have := HBL.out; omega) (by have := HAL.out; omega) (by have := HAL.out; omega) cb' hcb')
          rw [hcb'] at c1b hcB
          have hmbb := m1b.2.1
          have hmab := m1b.1
          have HEB1 := Lib.hid eb1
          clear eb eb1 o1b m1b m2b hcb'
          go_wp2_with fail
          refine c1b.out.mono ?_
          rintro e w' ⟨rfl, rfl⟩
          go_wp2_with fail
          refine c1b.out.mono ?_
          rintro e w' ⟨rfl, rfl⟩
          go_wp2_with fail
          refine CO1B.out.mono ?_
          rintro e w3 ⟨rfl, ho3⟩
          have HO3 := Lib.hid ho3
          clear ho3 hmB' hcB hmbb hmab
          go_wp2_with fail
          go_roundw
          case rel =>
            exact ⟨i + 1, mA', mB', by go_num, rfl, rfl, by have := HAL.out; omega, by rw [HEA1.out]; exact HM2.out, by rw [HEB1.out]; exact HM2B.out, by rw [HEA1.out, HEB1.out]; exact HO3.out⟩
          case measure => simp [intOf]; omega
        · skip
          have ea : min i A.length = i := by have := HAL.out; omega
          have ea1 : min (i + 1) A.length = i + 1 := by have := HAL.out; omega
          have hcA := HAC.out.at i (by have := HAL.out; omega)
          have c1 := Lib.hid (CA.out i ha wr HOFF.out.below)
          obtain ⟨c, hc⟩ : ∃ c, A.getD i 0 = c := ⟨_, rfl⟩
          obtain ⟨mA', hmA'⟩ : ∃ mA', (if mA < c then c else mA) = mA' := ⟨_, rfl⟩
          have o1 := HOFF.out
          have m1 := HMA.out
          rw [ea] at o1 m1
          have m2 := m1.step hc (by rw [hc] at hcA; omega)
          rw [hmA'] at m2
          have HM2 := Lib.hid m2
          have CO1 := Lib.hid (offerA o1 hvb HAC.out HBC.out (by have := HAL.out; omega) (by have := HAL.out; omega) (by omega) (by have := HBL.out; omega) c hc)
          rw [hc] at c1 hcA
          have hmb := m1.2.1
          have hma := m1.1
          have HEA1 := Lib.hid ea1
          clear ea ea1 o1 m1 m2 hc
          go_wp2_with fail
          refine c1.out.mono ?_
          rintro e w' ⟨rfl, rfl⟩
          go_wp2_with fail
          refine c1.out.mono ?_
          rintro e w' ⟨rfl, rfl⟩
          go_wp2_with fail
          refine CO1.out.mono ?_
          rintro e w2 ⟨rfl, ho2⟩
          have HO2 := Lib.hid ho2
          clear ho2 hmA' hcA hmb hma
          go_wp2_with fail
          go_roundw
          case rel =>
            have eb : min (i + 1) B.length = min i B.length := by have := HBL.out; omega
            exact ⟨i + 1, mA', mB, by go_num, rfl, rfl, by have := HAL.out; omega, by rw [HEA1.out]; exact HM2.out, by rw [eb]; exact HMB.out, by rw [HEA1.out, eb]; exact HO2.out⟩
          case measure => simp [intOf]; omega
      · have hb : i < nb := by have := HN.out; omega
        have eb : min i B.length = i := by have := HBL.out; omega
        have eb1 : min (i + 1) B.length = i + 1 := by have := HBL.out; omega
        have hcB := HBC.out.at i (by have := HBL.out; omega)
        have c1b := Lib.hid (CB.out i hb wr HOFF.out.below)
        obtain ⟨cb', hcb'⟩ : ∃ c, B.getD i 0 = c := ⟨_, rfl⟩
        obtain ⟨mB', hmB'⟩ : ∃ mB', (if mB < cb' then cb' else mB) = mB' := ⟨_, rfl⟩
        have o1b := HOFF.out
        have m1b := HMB.out
        rw [eb] at o1b m1b
        have m2b := m1b.step hcb' (by rw [hcb'] at hcB; omega)
        rw [hmB'] at m2b
        have HM2B := Lib.hid m2b
        have CO1B := Lib.hid (offerB o1b hub HAC.out HBC.out (by have := HBL.out; omega) (by have := HBL.out; omega) (by have := HAL.out; omega) (by have := HAL.out; omega) cb' hcb')
        rw [hcb'] at c1b hcB
        have hmbb := m1b.2.1
        have hmab := m1b.1
        have HEB1 := Lib.hid eb1
        clear eb eb1 o1b m1b m2b hcb'
        go_wp2_with fail
        refine c1b.out.mono ?_
        rintro e w' ⟨rfl, rfl⟩
        go_wp2_with fail
        refine c1b.out.mono ?_
        rintro e w' ⟨rfl, rfl⟩
        go_wp2_with fail
        refine CO1B.out.mono ?_
        rintro e w3 ⟨rfl, ho3⟩
        have HO3 := Lib.hid ho3
        clear ho3 hmB' hcB hmbb hmab
        go_wp2_with fail
        go_roundw
        case rel =>
          have ea : min (i + 1) A.length = min i A.length := by have := HAL.out; omega
          exact ⟨i + 1, mA, mB', by go_num, rfl, rfl, by have := HBL.out; omega, by rw [ea]; exact HMA.out, by rw [HEB1.out]; exact HM2B.out, by rw [ea, HEB1.out]; exact HO3.out⟩
        case measure => simp [intOf]; omega
    · have ea : min i A.length = A.length := by have := HAL.out; have := HN.out; omega
      have eb : min i B.length = B.length := by have := HBL.out; have := HN.out; omega
      have o2 := HOFF.out
      have a2 := HMA.out
      have b2 := HMB.out
      rw [ea] at o2 a2
      rw [eb] at o2 b2
      have H2 := Lib.hid o2.off2
      have HA2 := Lib.hid a2
      have HB2 := Lib.hid b2
      have hmA0 := a2.1
      have hmA1 := a2.2.1
      have hmB0 := b2.1
      have hmB1 := b2.2.1
      clear ea eb o2 a2 b2 HOFF HMA HMB
      have CR := Lib.hid (rest_any many 60 wr (by omega) (by omega) hm0 hm1)
      have k0 := Int.emod_nonneg many (show (60 : Int) ≠ 0 by omega)
      have k1 := Int.emod_lt_of_pos many (show (0 : Int) < 60 by omega)
      obtain ⟨K, hK⟩ : ∃ K : Nat, many % 60 = (K : Int) := ⟨(many % 60).toNat, by omega⟩
      rw [hK] at CR k0 k1
      clear hK
      go_wp2_with fail
      refine CR.out.mono ?_
      rintro e w' ⟨rfl, rfl⟩
      go_wp2_with fail
      have H3 : Hid (L2 w F v u A B K (.int .i64 0) (.int .i64 0) (.int .i64 0) (.int .i64 0) (.int .i64 0) wr) := ⟨0, 0, 0, by rw [sumTo_zero], by rw [sumTo_zero], rfl, rfl, rfl, by omega, H2.out, Even.start _ _ _ _, .inr ⟨rfl, rfl⟩⟩
      clear H2
      obtain ⟨wo, rfl⟩ : ∃ wo : World, wo = wr := ⟨_, rfl⟩
      go_loopw [17, 18, 19, 20, 106] (fun ga gb da db vj wr => L2 w F v u A B K ga gb da db vj wr) (fun _ _ _ _ vj _ => K - (intOf vj).toNat)
      case atStart => exact H3.out
      case round =>
        clear H3
        obtain ⟨p, q, j, rfl, rfl, rfl, rfl, rfl, hj, hoff, hev, hst⟩ := hrel
        have HOFF := Lib.hid hoff
        have HEV := Lib.hid hev
        have HST := Lib.hid hst
        clear hoff hev hst
        by_cases hjK : j < K
        · by_cases hpq : p < na ∨ q < nb
          · have CX := Lib.hid (nextSome HOFF.out hvb hub HAC.out HBC.out (by have := HAL.out; omega) (by have := HBL.out; omega) (by have := HAL.out; have := HBL.out; omega))
            clear hpq
            go_wp2_with fail
            refine CX.out.mono ?_
            rintro e w2 (⟨hpop, rfl, hle, ho⟩ | ⟨hpop, rfl, hle, ho⟩)
            · skip
              have hpa : p < na := by have := HAL.out; omega
              have hlow := HAL.out
              have hc := HAC.out.at p hpop
              have c1 := Lib.hid (CA.out p hpa w2 ho.below)
              obtain ⟨c, hcc⟩ : ∃ c, A.getD p 0 = c := ⟨_, rfl⟩
              rw [hcc] at c1 hc
              have hss := sumTo_succ A p hpop
              rw [hcc] at hss
              have hbd := sumTo_bd HAC.out p (by omega)
              have hbd1 := sumTo_bd HAC.out (p + 1) (by omega)
              have HLE := Lib.hid hle
              have HO := Lib.hid ho
              have HSS := Lib.hid hss
              have hb0 : 0 ≤ sumTo A p := by omega
              have hb1 : sumTo A p ≤ 30000 := by omega
              have hb2 : 0 ≤ sumTo A (p + 1) := by omega
              have hb3 : sumTo A (p + 1) ≤ 30000 := by omega
              have HPOP := Lib.hid hpop
              clear hle ho hss hcc hbd hbd1 hlow hpop
              by_cases hend : p + 1 = na
              · have t1 : ((p : Int) + 1 == (na : Int)) = true := by simp; omega
                clear hend
                go_wp2_with fail
                refine c1.out.mono ?_
                rintro e w' ⟨rfl, rfl⟩
                go_wp2_with fail
                all_goals go_ret
                all_goals exact ⟨rfl, HO.out.below⟩
              · have t1 : ((p : Int) + 1 == (na : Int)) = false := by simp; omega
                have hlt1 : p + 1 < na := by omega
                clear hend
                by_cases hoth : q = nb
                · have t2 : ((q : Int) == (nb : Int)) = true := by simp; omega
                  have t3 : (q == nb) = true := by simp; omega
                  clear hoth
                  go_wp2_with fail
                  refine c1.out.mono ?_
                  rintro e w' ⟨rfl, rfl⟩
                  go_wp2_with fail
                  go_ret
                  exact ⟨rfl, HO.out.below⟩
                · have t2 : ((q : Int) == (nb : Int)) = false := by simp; omega
                  have t3 : (q == nb) = false := by simp; omega
                  have holt : q < nb := by have := HBL.out; have := HAL.out; rcases HST.out with h | h <;> omega
                  clear hoth
                  have hev := Even.popA HEV.out HAC.out (by first | (have := parts v hvb.1 hvb.2; omega) | (have := parts u hub.1 hub.2; omega)) HPOP.out (HLE.out (by have := HBL.out; omega))
                  have HEV2 := Lib.hid hev
                  have hgap := hev.gap (mA := mA) (mB := mB) HAC.out HBC.out (parts v hvb.1 hvb.2).1 (parts u hub.1 hub.2).1 hvb.1 hub.1 (by have := HAL.out; omega) (by have := HBL.out; omega) HA2.out.2.2 HB2.out.2.2 hmA0 hmB0
                  have hoBd := sumTo_bd HBC.out q (by have := HBL.out; omega)
                  have ob0 : 0 ≤ sumTo B q := by omega
                  have ob1 : sumTo B q ≤ 30000 := by omega
                  have hq1 := mul_bd (x := sumTo A (p + 1)) (y := u) (a := 30000) (b := 10) (by omega) (by omega) (by omega) (by omega)
                  have hq2 := mul_bd (x := sumTo B (q)) (y := v) (a := 30000) (b := 10) (by omega) (by omega) (by omega) (by omega)
                  have hq3 := mul_bd (x := mA) (y := u) (a := 1000) (b := 10) hmA0 hmA1 (by omega) (by omega)
                  have hq4 := mul_bd (x := mB) (y := v) (a := 1000) (b := 10) hmB0 hmB1 (by omega) (by omega)
                  obtain ⟨P1, hP1⟩ : ∃ P1, sumTo A (p + 1) * u = P1 := ⟨_, rfl⟩
                  obtain ⟨P2, hP2⟩ : ∃ P2, sumTo B (q) * v = P2 := ⟨_, rfl⟩
                  obtain ⟨P3, hP3⟩ : ∃ P3, mA * u = P3 := ⟨_, rfl⟩
                  obtain ⟨P4, hP4⟩ : ∃ P4, mB * v = P4 := ⟨_, rfl⟩
                  rw [hP1, hP2, hP3, hP4] at hgap
                  rw [hP1] at hq1
                  rw [hP2] at hq2
                  rw [hP3] at hq3
                  rw [hP4] at hq4
                  obtain ⟨g1, g2⟩ := hgap
                  have HS2 : sumTo A p + c = sumTo A (p + 1) := HSS.out.symm
                  clear hev hoBd
                  go_wp2_with fail
                  refine c1.out.mono ?_
                  rintro e w' ⟨rfl, rfl⟩
                  go_wp2_with fail
                  go_roundw
                  case rel =>
                    exact ⟨p + 1, q, j + 1, by first | rfl | go_num, by first | rfl | go_num, by first | rfl | go_num, by first | rfl | go_num, by go_num, by omega, HO.out, HEV2.out, .inl ⟨by have := HAL.out; omega, by have := HBL.out; omega⟩⟩
                  case measure => simp [intOf]; omega
            · skip
              have hqb : q < nb := by have := HBL.out; omega
              have hlow := HBL.out
              have hc := HBC.out.at q hpop
              have c1 := Lib.hid (CB.out q hqb w2 ho.below)
              obtain ⟨c, hcc⟩ : ∃ c, B.getD q 0 = c := ⟨_, rfl⟩
              rw [hcc] at c1 hc
              have hss := sumTo_succ B q hpop
              rw [hcc] at hss
              have hbd := sumTo_bd HBC.out q (by omega)
              have hbd1 := sumTo_bd HBC.out (q + 1) (by omega)
              have HLE := Lib.hid hle
              have HO := Lib.hid ho
              have HSS := Lib.hid hss
              have hb0 : 0 ≤ sumTo B q := by omega
              have hb1 : sumTo B q ≤ 30000 := by omega
              have hb2 : 0 ≤ sumTo B (q + 1) := by omega
              have hb3 : sumTo B (q + 1) ≤ 30000 := by omega
              have HPOP := Lib.hid hpop
              clear hle ho hss hcc hbd hbd1 hlow hpop
              by_cases hend : q + 1 = nb
              · have t1 : ((q : Int) + 1 == (nb : Int)) = true := by simp; omega
                clear hend
                go_wp2_with fail
                refine c1.out.mono ?_
                rintro e w' ⟨rfl, rfl⟩
                go_wp2_with fail
                all_goals go_ret
                all_goals exact ⟨rfl, HO.out.below⟩
              · have t1 : ((q : Int) + 1 == (nb : Int)) = false := by simp; omega
                have hlt1 : q + 1 < nb := by omega
                clear hend
                by_cases hoth : p = na
                · have t2 : ((p : Int) == (na : Int)) = true := by simp; omega
                  have t3 : (p == na) = true := by simp; omega
                  clear hoth
                  go_wp2_with fail
                  refine c1.out.mono ?_
                  rintro e w' ⟨rfl, rfl⟩
                  go_wp2_with fail
                  go_ret
                  exact ⟨rfl, HO.out.below⟩
                · have t2 : ((p : Int) == (na : Int)) = false := by simp; omega
                  have t3 : (p == na) = false := by simp; omega
                  have holt : p < na := by have := HAL.out; have := HBL.out; rcases HST.out with h | h <;> omega
                  clear hoth
                  have hev := Even.popB HEV.out HBC.out (by first | (have := parts v hvb.1 hvb.2; omega) | (have := parts u hub.1 hub.2; omega)) HPOP.out (HLE.out (by have := HAL.out; omega))
                  have HEV2 := Lib.hid hev
                  have hgap := hev.gap (mA := mA) (mB := mB) HAC.out HBC.out (parts v hvb.1 hvb.2).1 (parts u hub.1 hub.2).1 hvb.1 hub.1 (by have := HAL.out; omega) (by have := HBL.out; omega) HA2.out.2.2 HB2.out.2.2 hmA0 hmB0
                  have hoBd := sumTo_bd HAC.out p (by have := HAL.out; omega)
                  have ob0 : 0 ≤ sumTo A p := by omega
                  have ob1 : sumTo A p ≤ 30000 := by omega
                  have hq1 := mul_bd (x := sumTo A (p)) (y := u) (a := 30000) (b := 10) (by omega) (by omega) (by omega) (by omega)
                  have hq2 := mul_bd (x := sumTo B (q + 1)) (y := v) (a := 30000) (b := 10) (by omega) (by omega) (by omega) (by omega)
                  have hq3 := mul_bd (x := mA) (y := u) (a := 1000) (b := 10) hmA0 hmA1 (by omega) (by omega)
                  have hq4 := mul_bd (x := mB) (y := v) (a := 1000) (b := 10) hmB0 hmB1 (by omega) (by omega)
                  obtain ⟨P1, hP1⟩ : ∃ P1, sumTo A (p) * u = P1 := ⟨_, rfl⟩
                  obtain ⟨P2, hP2⟩ : ∃ P2, sumTo B (q + 1) * v = P2 := ⟨_, rfl⟩
                  obtain ⟨P3, hP3⟩ : ∃ P3, mA * u = P3 := ⟨_, rfl⟩
                  obtain ⟨P4, hP4⟩ : ∃ P4, mB * v = P4 := ⟨_, rfl⟩
                  rw [hP1, hP2, hP3, hP4] at hgap
                  rw [hP1] at hq1
                  rw [hP2] at hq2
                  rw [hP3] at hq3
                  rw [hP4] at hq4
                  obtain ⟨g1, g2⟩ := hgap
                  have HS2 : sumTo B q + c = sumTo B (q + 1) := HSS.out.symm
                  clear hev hoBd
                  go_wp2_with fail
                  refine c1.out.mono ?_
                  rintro e w' ⟨rfl, rfl⟩
                  go_wp2_with fail
                  go_roundw
                  case rel =>
                    exact ⟨p, q + 1, j + 1, by first | rfl | go_num, by first | rfl | go_num, by first | rfl | go_num, by first | rfl | go_num, by go_num, by omega, HO.out, HEV2.out, .inl ⟨by have := HAL.out; omega, by have := HBL.out; omega⟩⟩
                  case measure => simp [intOf]; omega
          · have CX := Lib.hid (nextNone HOFF.out (by have := HAL.out; omega) (by have := HBL.out; omega))
            have t1 : (p == na) = true := by rcases HST.out with h | h <;> simp <;> have := HAL.out <;> omega
            have t2 : (q == nb) = true := by rcases HST.out with h | h <;> simp <;> have := HBL.out <;> omega
            have t3 : ((p : Int) == (na : Int)) = true := by rcases HST.out with h | h <;> simp <;> have := HAL.out <;> omega
            have t4 : ((q : Int) == (nb : Int)) = true := by rcases HST.out with h | h <;> simp <;> have := HBL.out <;> omega
            clear hpq
            go_wp2_with fail
            refine CX.out.mono ?_
            rintro e w2 ⟨rfl, rfl⟩
            go_wp2_with fail
            go_ret
            exact ⟨rfl, HOFF.out.below⟩
        · go_wp2_with fail
          go_ret
          exact ⟨rfl, HOFF.out.below⟩
end Go.Proofs.Ytdpkplnffemmgaa
