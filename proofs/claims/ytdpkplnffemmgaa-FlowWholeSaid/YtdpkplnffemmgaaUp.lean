/- THE WALK of heap.up over a line. No conditions but that a queue lies there, a heap but for its last. -/
import Derived.Test.YtdpkplnffemmgaaLine
namespace Go.Proofs.Ytdpkplnffemmgaa
open Go.RowKit
def QUp (qb cap : Nat) (ts : List Th) (w : World) (e : Ending) (w' : World) : Prop := e = .returned (.tuple #[]) ∧ ∃ ts', Queue w' qb cap ts' ∧ ts'.Perm ts ∧ HeapN ts' ts.length ∧ Chg [qb] w w'
def URel (fb fo qb cap n : Nat) (ts : List Th) (w : World) (v : Value) (wr : World) : Prop :=
  ∃ (j : Nat) (ts' : List Th), v = .int .i64 j ∧ j < n ∧ ts'.length = n ∧ Queue wr qb cap ts' ∧ ts'.Perm ts ∧ Upping ts' n j ∧ Chg [qb] w wr ∧ wr.cell? ⟨fb, fo, none⟩ = some (.slice (some ⟨qb, 0, none⟩) n cap)
set_option maxHeartbeats 400000 in
theorem up_q (fb fo qb cap j : Nat) (ts : List Th) (w : World) (hq : Queue w qb cap ts) (hj : j < ts.length) (hu : Upping ts ts.length j) (hne : fb ≠ qb)
   (hc : w.cell? ⟨fb, fo, none⟩ = some (.slice (some ⟨qb, 0, none⟩) ts.length cap)) :
   Calls Try.prog 18 #[.iface 48 (.pointer (some ⟨fb, fo, none⟩)), .int .i64 j] w (QUp qb cap ts w) := by
  obtain ⟨hn, hm, _⟩ := hq.cap_le
  unfold maxLen at hm
  have hm' : cap ≤ 9223372036854775807 := by omega
  clear hm
  have H0 : Hid (URel fb fo qb cap ts.length ts w (.int .i64 j) w) := ⟨j, ts, rfl, hj, rfl, hq, List.Perm.refl _, hu, Chg.refl _ _, hc⟩
  have HN : Hid (∀ (ts' : List Th) (w' : World), Queue w' qb cap ts' ∧ ts'.Perm ts ∧ HeapN ts' ts.length ∧ Chg [qb] w w' → QUp qb cap ts w (.returned (.tuple #[])) w') := fun ts' w' h => ⟨rfl, ts', h⟩
  generalize hnn : ts.length = n at *
  have hmet : ∀ W : World, W.cell? ⟨fb, fo, none⟩ = some (.slice (some ⟨qb, 0, none⟩) n cap) → (method 178 48 (.pointer (some ⟨fb, fo, none⟩)) "Less").run Try.prog W = .ok (37, (.slice (some ⟨qb, 0, none⟩) n cap)) W := fun W h => m_less h
  have hmes : ∀ W : World, W.cell? ⟨fb, fo, none⟩ = some (.slice (some ⟨qb, 0, none⟩) n cap) → (method 178 48 (.pointer (some ⟨fb, fo, none⟩)) "Swap").run Try.prog W = .ok (38, (.slice (some ⟨qb, 0, none⟩) n cap)) W := fun W h => m_swap h
  clear hu hq hc hj
  go_enter Try.func18, Try.ntmps18
  go_wp2_with fail
  go_loopw [1] (fun v wr => URel fb fo qb cap n ts w v wr) (fun v _ => (intOf v).toNat)
  case atStart => exact H0.out
  case round =>
    clear H0
    obtain ⟨j, ts', rfl, hj, hl, hq, hp, hu, hch, hcell⟩ := hrel
    have HQ := Lib.hid hq
    have HP := Lib.hid hp
    have HU := Lib.hid hu
    have HC := Lib.hid hch
    have HL := Lib.hid hl
    clear hq hp hu hch hl hnn
    by_cases h0 : j = 0
    · subst h0
      go_wp2_with fail
      go_end0
      exact HN.out ts' wr ⟨HQ.out, HP.out, HU.out.done (.inl rfl), HC.out⟩
    · have h1 : 1 ≤ j := by omega
      clear h0
      obtain ⟨i, hi⟩ : ∃ i : Nat, ((j : Int) - 1) / 2 = (i : Int) := ⟨(j - 1) / 2, by omega⟩
      have HI : Hid (i = (j - 1) / 2) := by have : i = (j - 1) / 2 := by omega
                                            exact this
      have hij : i < j := by have := HI.out; omega
      have hb : ((i : Int) == (j : Int)) = false := by simp; omega
      have hi2 : i < ts'.length := by have := HL.out; omega
      have hj2 : j < ts'.length := by have := HL.out; omega
      have CL := Lib.hid (less_q qb cap j i ts' wr HQ.out hj2 hi2)
      rw [HL.out] at CL
      have CS := Lib.hid (fun k => swap_q qb cap i j ts' (wr.drewN k) HQ.out hi2 hj2 (by omega))
      rw [HL.out] at CS
      clear hi2 hj2
      cases hles : Th.lessB (gt ts' j) (gt ts' i)
      · have HLE := Lib.hid ((Th.lessB_false _ _).1 hles)
        rw [hles] at CL
        clear hles
        go_wp2_with fail
        refine (CL.out).mono ?_
        rintro e w1 ⟨rfl, k, rfl⟩
        go_wp2_with fail
        go_end0
        have e0 := HI.out
        have l0 := HLE.out
        rw [e0] at l0
        exact HN.out ts' _ ⟨HQ.out, HP.out, HU.out.done (.inr l0), HC.out.drewN k⟩
      · have HLE := Lib.hid ((Th.lessB_iff _ _).1 hles)
        rw [hles] at CL
        clear hles
        go_wp2_with fail
        refine (CL.out).mono ?_
        rintro e w1 ⟨rfl, k, rfl⟩
        go_wp2_with fail
        refine (CS.out k).mono ?_
        rintro e w1 ⟨rfl, hq1, hc1⟩
        have HQ1 := Lib.hid hq1
        have HC1 := Lib.hid hc1
        clear hq1 hc1
        go_wp2_with fail
        have e0 := HI.out
        have l0 := HLE.out
        rw [e0] at l0
        have st := HU.out.step (by omega) hj (by have := HL.out; omega) l0
        rw [← e0] at st
        go_roundw
        case rel =>
          refine ⟨i, _, rfl, by omega, ?_, HQ1.out, ?_, st, ?_, ?_⟩
          · rw [swp_length]; exact HL.out
          · exact (swp_perm _ _ _ (by have := HL.out; omega) (by have := HL.out; omega)).trans HP.out
          · exact HC.out.trans ((Chg.refl _ _).drewN k |>.trans HC1.out)
          · exact HC1.out.cell (p := ⟨fb, fo, none⟩) (by simpa using hcell) (by simpa using hne)
        case measure => simp [intOf]; omega
end Go.Proofs.Ytdpkplnffemmgaa
