/- THE WALKS of a line: Len, Less, Swap, and how an interface value leads to them. No conditions but that a queue lies there. -/
import Derived.Test.YtdpkplnffemmgaaBase
namespace Go.Proofs.Ytdpkplnffemmgaa
open Go.RowKit
theorem m_push (a : Addr) (w : World) : (method 178 48 (.pointer (some a)) "Push").run Try.prog w = .ok (40, .pointer (some a)) w := by kernel_rfl
theorem m_pop (a : Addr) (w : World) : (method 178 48 (.pointer (some a)) "Pop").run Try.prog w = .ok (39, .pointer (some a)) w := by kernel_rfl
theorem m_len0 (a : Addr) (w : World) : (method 178 48 (.pointer (some a)) "Len").run Try.prog w = match w.cell? a with | some v => .ok (36, v) w | none => match w.farLoad Try.prog a false with | .ok (v, _) => .ok (36, v) w | .error h => .halt h w := by kernel_rfl
theorem m_less0 (a : Addr) (w : World) : (method 178 48 (.pointer (some a)) "Less").run Try.prog w = match w.cell? a with | some v => .ok (37, v) w | none => match w.farLoad Try.prog a false with | .ok (v, _) => .ok (37, v) w | .error h => .halt h w := by kernel_rfl
theorem m_swap0 (a : Addr) (w : World) : (method 178 48 (.pointer (some a)) "Swap").run Try.prog w = match w.cell? a with | some v => .ok (38, v) w | none => match w.farLoad Try.prog a false with | .ok (v, _) => .ok (38, v) w | .error h => .halt h w := by kernel_rfl
theorem m_len {a : Addr} {w : World} {v : Value} (h : w.cell? a = some v) : (method 178 48 (.pointer (some a)) "Len").run Try.prog w = .ok (36, v) w := by rw [m_len0, h]
theorem m_less {a : Addr} {w : World} {v : Value} (h : w.cell? a = some v) : (method 178 48 (.pointer (some a)) "Less").run Try.prog w = .ok (37, v) w := by rw [m_less0, h]
theorem m_swap {a : Addr} {w : World} {v : Value} (h : w.cell? a = some v) : (method 178 48 (.pointer (some a)) "Swap").run Try.prog w = .ok (38, v) w := by rw [m_swap0, h]

theorem drewN_drewN (w : World) (a b : Nat) : (w.drewN a).drewN b = w.drewN (a + b) := by unfold World.drewN; simp [Nat.add_assoc]

theorem len_any (ao : Option Addr) (n cap : Nat) (w : World) :
   Calls Try.prog 36 #[.slice ao n cap] w fun e w' => e = .returned (.int .i64 n) ∧ w = w' := by
  go_enter Try.func36, Try.ntmps36
  go_wp2
  go_ret
  exact ⟨rfl, rfl⟩

set_option maxHeartbeats 400000 in
theorem less_q (qb cap i j : Nat) (ts : List Th) (w : World) (hq : Queue w qb cap ts) (hi : i < ts.length) (hj : j < ts.length) :
   Calls Try.prog 37 #[.slice (some ⟨qb, 0, none⟩) ts.length cap, .int .i64 i, .int .i64 j] w fun e w' => e = .returned (.bool (Th.lessB (gt ts i) (gt ts j))) ∧ ∃ k, w' = w.drewN k := by
  obtain ⟨c0, c1, c2⟩ := hq.cells i hi
  obtain ⟨d0, d1, d2⟩ := hq.cells j hj
  obtain ⟨hn, hm, _⟩ := hq.cap_le
  unfold maxLen at hm
  generalize hti : gt ts i = a at *
  generalize htj : gt ts j = b at *
  have hm' : cap ≤ 9223372036854775807 := by omega
  clear hm
  generalize ts.length = n at *
  clear hti htj hq
  go_enter Try.func37, Try.ntmps37
  go_wp2
  go_quiet (fail)
  all_goals (try go_wp2)
  all_goals go_quiet (fail)
  all_goals (try go_wp2)
  all_goals go_ret
  all_goals (refine ⟨?_, ⟨_, drewN_drewN _ _ _⟩⟩; unfold Th.lessB; simp [*])

theorem drew_chg {w : World} {l : List Nat} : Chg l w.drew w := ⟨rfl, rfl, rfl, Nat.le_refl _, fun _ _ _ => rfl⟩

def QSwapped (qb cap : Nat) (ts : List Th) (w : World) (e : Ending) (w' : World) : Prop := e = .returned (.tuple #[]) ∧ Queue w' qb cap ts ∧ Chg [qb] w w'

theorem swp_same (l : List Th) (i : Nat) (h : i < l.length) : swp l i i = l := by
  unfold swp
  rw [gt_eq l i h]
  simp

set_option maxHeartbeats 400000 in
theorem swap_q (qb cap i j : Nat) (ts : List Th) (w : World) (hq : Queue w qb cap ts) (hi : i < ts.length) (hj : j < ts.length) (hij : i ≠ j) :
   Calls Try.prog 38 #[.slice (some ⟨qb, 0, none⟩) ts.length cap, .int .i64 i, .int .i64 j] w (QSwapped qb cap (swp ts i j) w) := by
  obtain ⟨c0, c1, c2⟩ := hq.cells i hi
  obtain ⟨d0, d1, d2⟩ := hq.cells j hj
  obtain ⟨hn, hm, _⟩ := hq.cap_le
  have e0 := hq.frozen (i * 3)
  have e1 := hq.frozen (i * 3 + 1)
  have e2 := hq.frozen (i * 3 + 2)
  have f0 := hq.frozen (j * 3)
  have f1 := hq.frozen (j * 3 + 1)
  have f2 := hq.frozen (j * 3 + 2)
  have H := Lib.hid (hq.swap i j hi hj)
  unfold maxLen at hm
  have hm' : cap ≤ 9223372036854775807 := by omega
  clear hm
  have hfin : ∀ W : World, Queue W qb cap (swp ts i j) → W.drew = W.drew → QSwapped qb cap (swp ts i j) w (.returned (.tuple #[])) W → True := fun _ _ _ _ => trivial
  clear hfin
  generalize hti : gt ts i = a at *
  generalize htj : gt ts j = b at *
  generalize hnn : ts.length = n at *
  clear hti htj hq hnn
  go_enter Try.func38, Try.ntmps38
  go_wp2
  go_region
  all_goals go_end0
  all_goals
    refine ⟨rfl, ?_, ?_⟩
    · refine Queue.drew ?_
      exact H.out
    · have Q := Chg.refl [qb] w
      exact Chg.drew ((((((Q.setCell (.inl (by simp)) _).setCell (.inl (by simp)) _).setCell (.inl (by simp)) _).setCell (.inl (by simp)) _).setCell (.inl (by simp)) _).setCell (.inl (by simp)) _)


set_option maxHeartbeats 400000 in
theorem swap_self (qb cap i : Nat) (ts : List Th) (w : World) (hq : Queue w qb cap ts) (hi : i < ts.length) :
   Calls Try.prog 38 #[.slice (some ⟨qb, 0, none⟩) ts.length cap, .int .i64 i, .int .i64 i] w (QSwapped qb cap ts w) := by
  obtain ⟨c0, c1, c2⟩ := hq.cells i hi
  obtain ⟨hn, hm, _⟩ := hq.cap_le
  have e0 := hq.frozen (i * 3)
  have e1 := hq.frozen (i * 3 + 1)
  have e2 := hq.frozen (i * 3 + 2)
  have H := Lib.hid (hq.swap i i hi hi)
  rw [swp_same ts i hi] at H
  unfold maxLen at hm
  have hm' : cap ≤ 9223372036854775807 := by omega
  clear hm
  generalize hti : gt ts i = a at *
  generalize hnn : ts.length = n at *
  clear hti hq hnn
  go_enter Try.func38, Try.ntmps38
  go_wp2
  go_region
  all_goals go_end0
  all_goals
    refine ⟨rfl, ?_, ?_⟩
    · refine Queue.drew ?_
      exact H.out
    · have Q := Chg.refl [qb] w
      exact Chg.drew ((((((Q.setCell (.inl (by simp)) _).setCell (.inl (by simp)) _).setCell (.inl (by simp)) _).setCell (.inl (by simp)) _).setCell (.inl (by simp)) _).setCell (.inl (by simp)) _)
end Go.Proofs.Ytdpkplnffemmgaa
