/- A LAW ON append of one int to a slice that may begin anywhere in its row; and what such a slice is in memory. Conditions: at most 1000 elements. -/
import Derived.Test.YtdpkplnffemmgaaNew
import Derived.Laws.IdiomCopy
namespace Go.Proofs.Ytdpkplnffemmgaa
open Go.RowKit

def WaitAt (w : World) (v : Value) (ids : List Int) : Prop :=
  (v = .slice none 0 0 ∧ ids = []) ∨
  ∃ g off cap cur, v = .slice (some ⟨g, off, none⟩) ids.length cap ∧ w.heap[g]? = some (.cells cur 3 (0, 0)) ∧ ids.length ≤ cap ∧ cap ≤ maxLen ∧ off + cap ≤ cur.size ∧
    ∀ i, i < ids.length → cur[off + i]? = some (.int .i64 (ids.getD i 0))

theorem WaitAt.nil (w : World) : WaitAt w (.slice none 0 0) [] := .inl ⟨rfl, rfl⟩
theorem WaitAt.chg {l : List Nat} {w w' : World} {v : Value} {ids : List Int} (h : WaitAt w v ids) (hc : Chg l w w') (hn : ∀ k, v.ownBlock = some k → k ∉ l) : WaitAt w' v ids := by
  rcases h with h | ⟨g, off, cap, cur, rfl, hg, r⟩
  · exact .inl h
  · exact .inr ⟨g, off, cap, cur, rfl, hc.heap hg (hn g rfl), r⟩
theorem WaitAt.shape {w : World} {v : Value} {ids : List Int} (h : WaitAt w v ids) : ∃ a cap, v = .slice a ids.length cap := by
  rcases h with ⟨rfl, rfl⟩ | ⟨g, off, cap, cur, rfl, _⟩
  · exact ⟨none, 0, rfl⟩
  · exact ⟨_, cap, rfl⟩
theorem WaitAt.lt {w : World} {v : Value} {ids : List Int} (h : WaitAt w v ids) : ∀ k, v.ownBlock = some k → k < w.heap.size := by
  intro k hk
  rcases h with ⟨rfl, _⟩ | ⟨g, off, cap, cur, rfl, hg, _⟩
  · simp [Value.ownBlock] at hk
  · simp [Value.ownBlock] at hk; subst hk; exact (Array.getElem?_eq_some_iff.1 hg).1

theorem WaitAt.of_owns {w : World} {b : Nat} {v : Value} {ids : List Int} {n : Nat} (h : w.ownsRow b 3 1 v n (ids.map (Value.int .i64))) : WaitAt w v ids := by
  have hl : ids.length = n := by have := h.1; simpa using this
  rcases h.2 with ⟨rfl, rfl⟩ | ⟨g, cap, cur, rfl, hb, hg, hnc, hcm, hcs, htake⟩
  · exact .inl ⟨rfl, List.eq_nil_of_length_eq_zero hl⟩
  · refine .inr ⟨g, 0, cap, cur, by rw [hl], hg, by omega, hcm, by omega, fun i hi => ?_⟩
    have : (cur.toList.take (n * 1))[i]? = (ids.map (Value.int .i64))[i]? := by rw [htake]
    rw [List.getElem?_take, if_pos (by omega)] at this
    simp at this
    rw [Nat.zero_add, this]
    simp [List.getD, hi]

/-- append of one. -/
theorem run_wait {P : Program} (w : World) (t ty : TypeId) (i : TypeInfo) (ht : P.underlying t = some (.slice 3)) (hi : P.info? 3 = some i) (hz : i.zero = some (.int .i64 0)) (hsize : i.size = 1) (hby : i.bytes = 8)
    (v : Value) (ids : List Int) (h : WaitAt w v ids) (h1000 : ids.length ≤ 1000) (x : Int) (a : Addr) (hx : w.cell? a = some (.int .i64 x)) :
    ∃ v' w', (Builtin.append_ #[t, t] ty #[v, .slice (some a) 1 1]).run P w = .ok v' w' ∧ WaitAt w' v' (ids ++ [x]) ∧ w.grownBy w' v.ownBlock ∧ Lies w v v' ∧ v' ≠ .slice none 0 0 := by
  have hnews : ∀ j u, ([Value.int .i64 x] : List Value)[j]? = some u → w.cell? (a.add j) = some u := by
    intro j u hj
    match j, hj with
    | 0, hj => simp at hj; subst hj; rw [show a.add 0 = a from by unfold Addr.add; split <;> simp_all]; exact hx
    | j + 1, hj => simp at hj
  have hone : ∀ u ∈ ([Value.int .i64 x] : List Value), u.oneCell' = true := by intro u hu; simp at hu; subst hu; rfl
  rcases h with ⟨rfl, rfl⟩ | ⟨g, off, cap, cur, rfl, hg, hnc, hcm, hsz, hcell⟩
  · obtain ⟨v', w', r1, r2, r3, r4, r5⟩ := run_app (P := P) w 0 t ty 3 i (.int .i64 0) 1 8 ht hi hz hsize hby rfl (by decide) (.slice none 0 0) 0 [] (World.ownsRow_nil _ _ _ _) a 1 1 [.int .i64 x] rfl hnews hone (by unfold maxLen; omega) (by omega) (Nat.zero_le _)
    exact ⟨v', w', r1, WaitAt.of_owns (ids := [x]) (by simpa using r2), r3, r5, fun e => absurd (r4.1 e).2 (by omega)⟩
  · have hcells : ∀ j, j < ids.length → w.cell? ⟨g, off + j, none⟩ = some (.int .i64 (ids.getD j 0)) := fun j hj => by
      rw [cell_of_row w g (off + j) cur 3 (0, 0) hg]; exact hcell j hj
    by_cases hroom : ids.length + 1 ≤ cap
    · have hin : off + ids.length < cur.size := by omega
      have hr := run_append_room_cells (P := P) w t ty 3 i ht hi g off ids.length cap a 1 1 [.int .i64 x] (by simp [hsize]) hnews hone hroom
        (fun j hj => by
          have : j = 0 := by simpa using hj
          subst this
          rw [cell_of_row w g _ cur 3 (0, 0) hg, hsize]; simp [hin])
        (fun j hj => frozen_of_row w g _ cur 3 hg)
      rw [hsize, Nat.mul_one] at hr
      refine ⟨_, _, hr, .inr ⟨g, off, cap, cur.setIfInBounds (off + ids.length) (.int .i64 x), by simp, heap_setCell_same w g (off + ids.length) cur 3 _ hg, by simpa using hroom, hcm, by simpa using hsz, fun i' hi' => ?_⟩, ?_, .inl rfl, by simp⟩
      · simp at hi'
        rw [Array.getElem?_setIfInBounds]
        by_cases e : i' = ids.length
        · subst e; simp [hin]
        · rw [if_neg (by omega), hcell i' (by omega)]
          simp [List.getD, List.getElem?_append, show i' < ids.length by omega]
      · exact ⟨rfl, rfl, rfl, by simp [World.setCells], fun k _ hk => heap_setCell_other w ⟨g, off + ids.length, none⟩ k _ (fun e => hk (by simp [Value.ownBlock, e]))⟩
    · obtain ⟨v', w', r1, r2, r3⟩ := run_append_arg_grows (P := P) w t ty 3 i (.int .i64 0) 1 8 ht hi hz hsize hby rfl (by decide) ⟨g, off, none⟩ ids.length cap (ids.map (Value.int .i64)) (by simp)
        (fun j u hu => by
          rw [Addr.add_lit]
          have hj : j < ids.length := by have := (List.getElem?_eq_some_iff.1 hu).1; simpa using this
          rw [hcells j hj, ← hu]; simp [List.getD, hj])
        a 1 1 [.int .i64 x] rfl hnews (by omega) (by unfold maxLen; omega) (by omega)
      have hne : v' ≠ .slice none 0 0 := by
        intro e
        have := r2.2
        rcases this with ⟨_, h0⟩ | ⟨g', cap', cur', h', _⟩
        · omega
        · rw [e] at h'; simp at h'
      refine ⟨v', w', r1, WaitAt.of_owns (ids := ids ++ [x]) (by rw [List.map_append]; exact r2), ⟨r3.os, r3.tape, r3.output, r3.size, fun k hk _ => r3.block k hk (by simp)⟩, ?_, hne⟩
      rcases ownsRow_new r2 with h | h
      · exact .inr (.inl h)
      · exact .inr (.inr h)

theorem step_wait {P : Program} {ops : Array Oper} {o : Oper} {a : Act} {w : World} {K : Act → World → Prop} {Q : Exit → Act → World → Prop} {E : Prop}
    (hgd : o.guard = none) (s x : Operand) (t : TypeId) (ho : o.op = Op.call { callee := Callee.builtin Builtin.append, args := #[s, x], argTypes := #[t, t] })
    (i : TypeInfo) (ht : P.underlying t = some (.slice 3)) (hi : P.info? 3 = some i) (hz : i.zero = some (.int .i64 0)) (hsize : i.size = 1) (hby : i.bytes = 8)
    (v : Value) (ids : List Int) (hs : a.eval s = v) (h : WaitAt w v ids) (h1000 : ids.length ≤ 1000) (y : Int) (ad : Addr) (hx : a.eval x = .slice (some ad) 1 1) (hy : w.cell? ad = some (.int .i64 y))
    (hK : ∀ v' w', WaitAt w' v' (ids ++ [y]) → w.grownBy w' v.ownBlock → Lies w v v' → v' ≠ .slice none 0 0 → K (a.put o.dst v') w') :
    if Region.wanted o (yielded ops a.tmps) = true then Oper.wp P o a w K Q else E := by
  have hw : Region.wanted o (yielded ops a.tmps) = true := by simp [Region.wanted, hgd]
  rw [if_pos hw]
  obtain ⟨v', w', hr, h2, h3, h4, h5⟩ := run_wait (P := P) w t o.type i ht hi hz hsize hby v ids h h1000 y ad hy
  unfold Oper.wp execOp
  simp only [ho, resolve, invoke, builtin, Sem.run_bind, Sem.run_pure, Result.andThen_ok, List.map_toArray, List.map_cons, List.map_nil, hs, hx, hr]
  exact hK v' w' h2 h3 h4 h5
end Go.Proofs.Ytdpkplnffemmgaa
