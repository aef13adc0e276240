/- THE WALKS of seneschalref.Has at strings, seneschalkeep.odd and without. Conditions: the arguments hold in memory what they say. -/
import Derived.Test.YtfdfljcieeccbaaGarW
namespace Go.Proofs.Ytfdfljcieeccbaa
open Go.RowKit
attribute [local go_sem] run_makeMap
attribute [local go_sem ↓ high] appWr_eq
def HRel (x : ByteArray) (l : List ByteArray) (v : Value) : Prop := ∃ i : Nat, v = .int .i64 i ∧ i ≤ l.length ∧ ∀ j, j < i → x ≠ l.getD j ByteArray.empty
theorem has_any (v : Value) (l : List ByteArray) (x : ByteArray) (w : World) (h : StrsAt w v l) :
    Calls Try.prog 10 #[v, .string x] w fun e w' => e = .returned (.bool (inB x l)) ∧ w = w' := by
  have hl : l.length ≤ 9223372036854775807 := by
    rcases h with ⟨_, _, _, rfl⟩ | ⟨_, _, _, _, h1, h2, _⟩
    · simp
    · omega
  obtain ⟨a, cap, rfl⟩ := h.shape
  have HS := Lib.hid h
  have H0 : Hid (HRel x l (.int .i64 0)) := ⟨0, rfl, Nat.zero_le _, fun j hj => by omega⟩
  clear h
  go_enter Try.func10, Try.ntmps10
  go_wp2_with fail
  go_loop [9] (fun v => HRel x l v) (fun v => l.length - (intOf v).toNat)
  case atStart => exact H0.out
  case round =>
    clear H0
    obtain ⟨i, rfl, hi, hall⟩ := hrel
    have HALL := Lib.hid hall
    clear hall
    by_cases hlt : i < l.length
    · obtain ⟨b, off, rfl, _, hcell⟩ := strs_cell HS.out (by omega)
      have hc := hcell i hlt
      obtain ⟨o, ho⟩ : ∃ o, l.getD i ByteArray.empty = o := ⟨_, rfl⟩
      rw [ho] at hc
      have HO := Lib.hid ho
      clear hcell ho
      by_cases e : x = o
      · have he : (x.toList == o.toList) = true := (Go.Lib.bytes_beq_iff x o).2 e
        have HE := Lib.hid e
        clear e
        go_wp2_with fail
        go_ret
        refine ⟨?_, rfl⟩
        rw [(inB_iff x l).2 (by rw [HE.out, ← HO.out]; simp only [List.getD, List.getElem?_eq_getElem hlt, Option.getD_some]; exact List.getElem_mem hlt)]
        rfl
      · have he : (x.toList == o.toList) = false := Bool.eq_false_iff.2 (fun h => e ((Go.Lib.bytes_beq_iff x o).1 h))
        have HE := Lib.hid e
        clear e
        go_wp2_with fail
        go_round
        case rel =>
          refine ⟨i + 1, by go_num, by omega, fun j hj => ?_⟩
          by_cases e2 : j = i
          · subst e2; rw [HO.out]; exact HE.out
          · exact HALL.out j (by omega)
        case measure => simp [intOf]; omega
    · go_wp2_with fail
      go_ret
      refine ⟨?_, rfl⟩
      rw [(inB_false x l).2 (fun hm => by
        obtain ⟨j, hj, e⟩ := List.getElem_of_mem hm
        exact HALL.out j (Nat.lt_of_lt_of_le hj (Nat.le_of_not_lt hlt)) (by simp only [List.getD, List.getElem?_eq_getElem hj, Option.getD_some]; exact e.symm))]
      rfl
theorem odd_any (w : World) : Calls Try.prog 7 #[] w fun e w' => e = .returned (.bool true) ∧ Chg [] w w' := by
  have hc : CardsAt (w.alloc (.cells #[.string ByteArray.empty, .slice none 0 0] 31)) (.slice (some ⟨w.heap.size, 0, none⟩) [Card.dflt].length 1) [Card.dflt] := by
    refine .inr ⟨_, 0, 1, rfl, by simp, by omega, by simp, fun i hi => ?_⟩
    have : i = 0 := by simpa using hi
    subst this
    exact ⟨.slice none 0 0, by simp [gc, Card.dflt], by simp, .inl ⟨none, 0, rfl, rfl⟩, by decide, fun s hs => by simp [gc, Card.dflt] at hs, by simp [gc, Card.dflt]⟩
  have C := Lib.hid (check8_any _ _ _ _ hc)
  have he : checkE [Card.dflt] = 6 := by
    unfold checkE
    rw [if_neg (by simp)]
    have h0 : nameE ByteArray.empty = 6 := by
      unfold nameE
      rw [show nameB ByteArray.empty = false from madeB_nil _ _ _ rfl]
      rfl
    have h1 : (cardEs [Card.dflt]).getD 0 0 = 6 := by
      rw [cardEs_get _ 0 (by simp)]
      unfold cardE
      simp [gc, Card.dflt, h0]
    rw [firstE_hit 0 (by simp [cardEs]) (fun i hi => by omega) (by rw [h1]; decide), h1]
  rw [he] at C
  clear hc he
  go_enter Try.func7, Try.ntmps7
  go_wp2_with fail
  refine C.out.mono ?_
  rintro e w' ⟨rfl, hc⟩
  go_wp2_with fail
  go_ret
  exact ⟨rfl, ((Chg.refl [] w).alloc _).trans hc⟩
end Go.Proofs.Ytfdfljcieeccbaa
