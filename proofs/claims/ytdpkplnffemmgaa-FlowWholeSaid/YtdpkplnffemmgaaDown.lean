/- THE WALK of heap.down over a line, from its head. Conditions: a queue of at most 65 lies there; below its head it is a heap. -/
import Derived.Test.YtdpkplnffemmgaaLine
namespace Go.Proofs.Ytdpkplnffemmgaa
open Go.RowKit
def QDown (qb cap m : Nat) (ts : List Th) (w : World) (e : Ending) (w' : World) : Prop := (∃ b : Bool, e = .returned (.bool b)) ∧ ∃ ts', Queue w' qb cap ts' ∧ ts'.Perm ts ∧ HeapN ts' m ∧ gt ts' m = gt ts m ∧ Chg [qb] w w'
def DRel (fb fo qb cap n m : Nat) (ts : List Th) (w : World) (v : Value) (wr : World) : Prop :=
  ∃ (i : Nat) (ts' : List Th), v = .int .i64 i ∧ i ≤ m ∧ ts'.length = n ∧ Queue wr qb cap ts' ∧ ts'.Perm ts ∧ Downing ts' m i ∧ gt ts' m = gt ts m ∧ Chg [qb] w wr ∧ wr.cell? ⟨fb, fo, none⟩ = some (.slice (some ⟨qb, 0, none⟩) n cap)
set_option maxHeartbeats 1000000 in
theorem down_q (fb fo qb cap m : Nat) (ts : List Th) (w : World) (hq : Queue w qb cap ts) (hmn : m < ts.length) (h65 : ts.length ≤ 65) (hu : Downing ts m 0) (hne : fb ≠ qb)
   (hc : w.cell? ⟨fb, fo, none⟩ = some (.slice (some ⟨qb, 0, none⟩) ts.length cap)) :
   Calls Try.prog 19 #[.iface 48 (.pointer (some ⟨fb, fo, none⟩)), .int .i64 0, .int .i64 m] w (QDown qb cap m ts w) := by
  obtain ⟨hn, hm, _⟩ := hq.cap_le
  unfold maxLen at hm
  have hm' : cap ≤ 9223372036854775807 := by omega
  clear hm
  have H0 : Hid (DRel fb fo qb cap ts.length m ts w (.int .i64 0) w) := ⟨0, ts, rfl, by omega, rfl, hq, List.Perm.refl _, hu, rfl, Chg.refl _ _, hc⟩
  have HN : Hid (∀ (b : Bool) (ts' : List Th) (w' : World), Queue w' qb cap ts' ∧ ts'.Perm ts ∧ HeapN ts' m ∧ gt ts' m = gt ts m ∧ Chg [qb] w w' → QDown qb cap m ts w (.returned (.bool b)) w') := fun b ts' w' h => ⟨⟨b, rfl⟩, ts', h⟩
  generalize hnn : ts.length = n at *
  have hmet : ∀ W : World, W.cell? ⟨fb, fo, none⟩ = some (.slice (some ⟨qb, 0, none⟩) n cap) → (method 178 48 (.pointer (some ⟨fb, fo, none⟩)) "Less").run Try.prog W = .ok (37, (.slice (some ⟨qb, 0, none⟩) n cap)) W := fun W h => m_less h
  have hmes : ∀ W : World, W.cell? ⟨fb, fo, none⟩ = some (.slice (some ⟨qb, 0, none⟩) n cap) → (method 178 48 (.pointer (some ⟨fb, fo, none⟩)) "Swap").run Try.prog W = .ok (38, (.slice (some ⟨qb, 0, none⟩) n cap)) W := fun W h => m_swap h
  clear hu hq hc
  go_enter Try.func19, Try.ntmps19
  go_wp2_with fail
  go_loopw [7] (fun v wr => DRel fb fo qb cap n m ts w v wr) (fun v _ => m - (intOf v).toNat)
  case atStart => exact H0.out
  case round =>
    clear H0
    obtain ⟨i, ts', rfl, hi, hl, hq, hp, hu, hlast, hch, hcell⟩ := hrel
    have HQ := Lib.hid hq
    have HP := Lib.hid hp
    have HU := Lib.hid hu
    have HC := Lib.hid hch
    have HL := Lib.hid hl
    have HT := Lib.hid hlast
    clear hq hp hu hch hl hnn hlast
    by_cases h1 : m ≤ 2 * i + 1
    · have hg : decide ((m : Int) ≤ 2 * (i : Int) + 1) = true := by simp; omega
      go_wp2_with fail
      go_ret
      exact HN.out _ ts' wr ⟨HQ.out, HP.out, HU.out.done (fun k h0 hk hp => by omega), HT.out, HC.out⟩
    · have hg : decide ((m : Int) ≤ 2 * (i : Int) + 1) = false := by simp; omega
      have hg2 : decide (2 * (i : Int) + 1 < 0) = false := by simp; omega
      have h1' : 2 * i + 1 < m := by omega
      clear h1
      obtain ⟨j1, hj1⟩ : ∃ j1 : Nat, (2 * (i : Int) + 1) = (j1 : Int) := ⟨2 * i + 1, by omega⟩
      have HJ : Hid (j1 = 2 * i + 1) := by have : j1 = 2 * i + 1 := by omega
                                           exact this
      obtain ⟨j2, hj2⟩ : ∃ j2 : Nat, ((j1 : Int) + 1) = (j2 : Int) := ⟨j1 + 1, by omega⟩
      have HJ2 : Hid (j2 = 2 * i + 2) := by have : j2 = 2 * i + 2 := by omega
                                            exact this
      rw [hj1] at hg hg2
      by_cases h2 : j2 < m
      · have hg3 : decide ((j2 : Int) < (m : Int)) = true := by simp; omega
        have hi1 : j1 < ts'.length := by have := HL.out; have := HJ.out; omega
        have hi2' : j2 < ts'.length := by have := HL.out; omega
        have CL := Lib.hid (less_q qb cap j2 j1 ts' wr HQ.out hi2' hi1)
        rw [HL.out] at CL
        clear hi1 hi2'
        cases hles : Th.lessB (gt ts' j2) (gt ts' j1)
        · have HLE := Lib.hid ((Th.lessB_false _ _).1 hles)
          rw [hles] at CL
          clear hles
          go_wp2_with fail
          refine (CL.out).mono ?_
          rintro e w1 ⟨rfl, k1, rfl⟩
          have hi2 : i < ts'.length := by have := HL.out; have := HJ.out; omega
          have hjj2 : j1 < ts'.length := by have := HL.out; have := HJ.out; have := HJ2.out; omega
          have hjm : j1 < m := by have := HJ.out; have := HJ2.out; omega
          have hjpar : (j1 - 1) / 2 = i := by have := HJ.out; have := HJ2.out; omega
          have HPAR := Lib.hid hjpar
          clear hjpar
          have HMIN := Lib.hid (show ∀ k, 0 < k → k < m → (k - 1) / 2 = i → Th.le (gt ts' j1) (gt ts' k) from (fun k h0 hk hp => by
                      have e1 := HJ.out
                      have e2 := HJ2.out
                      by_cases e : k = j1
                      · subst e; exact Th.le_refl _
                      · have : k = j2 := by omega
                        subst this; exact HLE.out))
          have CL2 := Lib.hid (less_q qb cap j1 i ts' (wr.drewN k1) HQ.out hjj2 hi2)
          rw [HL.out] at CL2
          have CS := Lib.hid (fun k => swap_q qb cap i j1 ts' (wr.drewN (k1 + k)) HQ.out hi2 hjj2 (by have := HJ.out; have := HJ2.out; omega))
          rw [HL.out] at CS
          clear hi2 hjj2
          cases hles2 : Th.lessB (gt ts' j1) (gt ts' i)
          · have HLE2 := Lib.hid ((Th.lessB_false _ _).1 hles2)
            rw [hles2] at CL2
            clear hles2
            go_wp2_with fail
            refine (CL2.out).mono ?_
            rintro e w1 ⟨rfl, k2, rfl⟩
            go_wp2_with fail
            go_ret
            exact HN.out _ ts' _ ⟨HQ.out, HP.out, HU.out.done (fun k h0 hk hp => Th.le_trans HLE2.out (HMIN.out k h0 hk hp)), HT.out, HC.out.drewN (k1 + k2)⟩
          · have HLE2 := Lib.hid ((Th.lessB_iff _ _).1 hles2)
            rw [hles2] at CL2
            clear hles2
            go_wp2_with fail
            refine (CL2.out).mono ?_
            rintro e w1 ⟨rfl, k2, rfl⟩
            go_wp2_with fail
            refine (CS.out k2).mono ?_
            rintro e w1 ⟨rfl, hq1, hc1⟩
            have HQ1 := Lib.hid hq1
            have HC1 := Lib.hid hc1
            clear hq1 hc1
            go_wp2_with fail
            have st := HU.out.step hjm HPAR.out (by have := HJ.out; have := HJ2.out; omega) (by have := HL.out; omega) HMIN.out (Th.le_of_not HLE2.out)
            have lst : gt (swp ts' i j1) m = gt ts m := by
              rw [gt_swp _ _ _ _ (by have := HL.out; have := HJ.out; omega) (by have := HL.out; omega), if_neg (by omega), if_neg (by have := HJ.out; omega)]
              exact HT.out
            go_roundw
            case rel =>
              refine ⟨j1, _, rfl, by omega, ?_, HQ1.out, ?_, st, lst, ?_, ?_⟩
              · rw [swp_length]; exact HL.out
              · exact (swp_perm _ _ _ (by have := HL.out; have := HJ.out; omega) (by have := HL.out; omega)).trans HP.out
              · exact (HC.out.drewN (k1 + k2)).trans HC1.out
              · exact HC1.out.cell (p := ⟨fb, fo, none⟩) (by simpa using hcell) (by simpa using hne)
            case measure => have := HJ.out; have := HJ2.out; simp [intOf]; omega
        · have HLE := Lib.hid ((Th.lessB_iff _ _).1 hles)
          rw [hles] at CL
          clear hles
          go_wp2_with fail
          refine (CL.out).mono ?_
          rintro e w1 ⟨rfl, k1, rfl⟩
          have hi2 : i < ts'.length := by have := HL.out; have := HJ.out; omega
          have hjj2 : j2 < ts'.length := by have := HL.out; have := HJ.out; have := HJ2.out; omega
          have hjm : j2 < m := by have := HJ.out; have := HJ2.out; omega
          have hjpar : (j2 - 1) / 2 = i := by have := HJ.out; have := HJ2.out; omega
          have HPAR := Lib.hid hjpar
          clear hjpar
          have HMIN := Lib.hid (show ∀ k, 0 < k → k < m → (k - 1) / 2 = i → Th.le (gt ts' j2) (gt ts' k) from (fun k h0 hk hp => by
                      have e1 := HJ.out
                      have e2 := HJ2.out
                      by_cases e : k = j1
                      · subst e; exact Th.le_of_not HLE.out
                      · have : k = j2 := by omega
                        subst this; exact Th.le_refl _))
          have CL2 := Lib.hid (less_q qb cap j2 i ts' (wr.drewN k1) HQ.out hjj2 hi2)
          rw [HL.out] at CL2
          have CS := Lib.hid (fun k => swap_q qb cap i j2 ts' (wr.drewN (k1 + k)) HQ.out hi2 hjj2 (by have := HJ.out; have := HJ2.out; omega))
          rw [HL.out] at CS
          clear hi2 hjj2
          cases hles2 : Th.lessB (gt ts' j2) (gt ts' i)
          · have HLE2 := Lib.hid ((Th.lessB_false _ _).1 hles2)
            rw [hles2] at CL2
            clear hles2
            go_wp2_with fail
            refine (CL2.out).mono ?_
            rintro e w1 ⟨rfl, k2, rfl⟩
            go_wp2_with fail
            go_ret
            exact HN.out _ ts' _ ⟨HQ.out, HP.out, HU.out.done (fun k h0 hk hp => Th.le_trans HLE2.out (HMIN.out k h0 hk hp)), HT.out, HC.out.drewN (k1 + k2)⟩
          · have HLE2 := Lib.hid ((Th.lessB_iff _ _).1 hles2)
            rw [hles2] at CL2
            clear hles2
            go_wp2_with fail
            refine (CL2.out).mono ?_
            rintro e w1 ⟨rfl, k2, rfl⟩
            go_wp2_with fail
            refine (CS.out k2).mono ?_
            rintro e w1 ⟨rfl, hq1, hc1⟩
            have HQ1 := Lib.hid hq1
            have HC1 := Lib.hid hc1
            clear hq1 hc1
            go_wp2_with fail
            have st := HU.out.step hjm HPAR.out (by have := HJ.out; have := HJ2.out; omega) (by have := HL.out; omega) HMIN.out (Th.le_of_not HLE2.out)
            have lst : gt (swp ts' i j2) m = gt ts m := by
              rw [gt_swp _ _ _ _ (by have := HL.out; have := HJ.out; omega) (by have := HL.out; omega), if_neg (by omega), if_neg (by have := HJ.out; omega)]
              exact HT.out
            go_roundw
            case rel =>
              refine ⟨j2, _, rfl, by omega, ?_, HQ1.out, ?_, st, lst, ?_, ?_⟩
              · rw [swp_length]; exact HL.out
              · exact (swp_perm _ _ _ (by have := HL.out; have := HJ.out; omega) (by have := HL.out; omega)).trans HP.out
              · exact (HC.out.drewN (k1 + k2)).trans HC1.out
              · exact HC1.out.cell (p := ⟨fb, fo, none⟩) (by simpa using hcell) (by simpa using hne)
            case measure => have := HJ.out; have := HJ2.out; simp [intOf]; omega
      · have hg3 : decide ((j2 : Int) < (m : Int)) = false := by simp; omega
        have hi2 : i < ts'.length := by have := HL.out; have := HJ.out; omega
        have hjj2 : j1 < ts'.length := by have := HL.out; have := HJ.out; have := HJ2.out; omega
        have hjm : j1 < m := by have := HJ.out; have := HJ2.out; omega
        have hjpar : (j1 - 1) / 2 = i := by have := HJ.out; have := HJ2.out; omega
        have HPAR := Lib.hid hjpar
        clear hjpar
        have HMIN := Lib.hid (show ∀ k, 0 < k → k < m → (k - 1) / 2 = i → Th.le (gt ts' j1) (gt ts' k) from (fun k h0 hk hp => by
                  have e1 := HJ.out
                  have e2 := HJ2.out
                  by_cases e : k = j1
                  · subst e; exact Th.le_refl _
                  · have : k = j2 := by omega
                    subst this; omega))
        have CL2 := Lib.hid (less_q qb cap j1 i ts' (wr) HQ.out hjj2 hi2)
        rw [HL.out] at CL2
        have CS := Lib.hid (fun k => swap_q qb cap i j1 ts' ((wr).drewN k) HQ.out hi2 hjj2 (by have := HJ.out; have := HJ2.out; omega))
        rw [HL.out] at CS
        clear hi2 hjj2
        cases hles2 : Th.lessB (gt ts' j1) (gt ts' i)
        · have HLE2 := Lib.hid ((Th.lessB_false _ _).1 hles2)
          rw [hles2] at CL2
          clear hles2
          go_wp2_with fail
          refine (CL2.out).mono ?_
          rintro e w1 ⟨rfl, k2, rfl⟩
          go_wp2_with fail
          go_ret
          exact HN.out _ ts' _ ⟨HQ.out, HP.out, HU.out.done (fun k h0 hk hp => Th.le_trans HLE2.out (HMIN.out k h0 hk hp)), HT.out, HC.out.drewN k2⟩
        · have HLE2 := Lib.hid ((Th.lessB_iff _ _).1 hles2)
          rw [hles2] at CL2
          clear hles2
          go_wp2_with fail
          refine (CL2.out).mono ?_
          rintro e w1 ⟨rfl, k2, rfl⟩
          go_wp2_with fail
          refine (CS.out k2).mono ?_
          rintro e w1 ⟨rfl, hq1, hc1⟩
          have HQ1 := Lib.hid hq1
          have HC1 := Lib.hid hc1
          clear hq1 hc1
          go_wp2_with fail
          have st := HU.out.step hjm HPAR.out (by have := HJ.out; have := HJ2.out; omega) (by have := HL.out; omega) HMIN.out (Th.le_of_not HLE2.out)
          have lst : gt (swp ts' i j1) m = gt ts m := by
            rw [gt_swp _ _ _ _ (by have := HL.out; have := HJ.out; omega) (by have := HL.out; omega), if_neg (by omega), if_neg (by have := HJ.out; omega)]
            exact HT.out
          go_roundw
          case rel =>
            refine ⟨j1, _, rfl, by omega, ?_, HQ1.out, ?_, st, lst, ?_, ?_⟩
            · rw [swp_length]; exact HL.out
            · exact (swp_perm _ _ _ (by have := HL.out; have := HJ.out; omega) (by have := HL.out; omega)).trans HP.out
            · exact (HC.out.drewN k2).trans HC1.out
            · exact HC1.out.cell (p := ⟨fb, fo, none⟩) (by simpa using hcell) (by simpa using hne)
          case measure => have := HJ.out; have := HJ2.out; simp [intOf]; omega
end Go.Proofs.Ytdpkplnffemmgaa
