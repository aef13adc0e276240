/- A LAW ON append of one string to a slice that may begin anywhere in its row; and what such a slice is in memory. Conditions: at most 1000 elements. -/
import Derived.Test.YtfdfljcieeccbaaCheck
import Derived.Laws.IdiomCopy
import Derived.ArgAppend
import Derived.Deep.RegionLaw
namespace Go.Proofs.Ytfdfljcieeccbaa
open Go.RowKit

def vs (l : List ByteArray) : List Value := l.map Value.string
/-- a slice of the call's own: it may be written behind its end. -/
def SlAt (w : World) (v : Value) (l : List ByteArray) : Prop :=
  (v = .slice none 0 0 ∧ l = []) ∨
  ∃ g off cap cur, v = .slice (some ⟨g, off, none⟩) l.length cap ∧ w.heap[g]? = some (.cells cur 9 (0, 0)) ∧ l.length ≤ cap ∧ cap ≤ 9223372036854775807 ∧ off + cap ≤ cur.size ∧
    ∀ i, i < l.length → cur[off + i]? = some (.string (l.getD i ByteArray.empty))
def Lies (w : World) (v v' : Value) : Prop := v'.ownBlock = v.ownBlock ∨ v'.ownBlock = none ∨ ∃ g, v'.ownBlock = some g ∧ w.heap.size ≤ g
theorem SlAt.nil (w : World) : SlAt w (.slice none 0 0) [] := .inl ⟨rfl, rfl⟩
theorem SlAt.chg {ls : List Nat} {w w' : World} {v : Value} {l : List ByteArray} (h : SlAt w v l) (hc : Chg ls w w') (hn : ∀ k, v.ownBlock = some k → k ∉ ls) : SlAt w' v l := by
  rcases h with h | ⟨g, off, cap, cur, rfl, hg, r⟩
  · exact .inl h
  · exact .inr ⟨g, off, cap, cur, rfl, hc.heap hg (hn g rfl), r⟩
theorem SlAt.shape {w : World} {v : Value} {l : List ByteArray} (h : SlAt w v l) : ∃ a cap, v = .slice a l.length cap := by
  rcases h with ⟨rfl, rfl⟩ | ⟨g, off, cap, cur, rfl, _⟩
  · exact ⟨none, 0, rfl⟩
  · exact ⟨_, cap, rfl⟩
theorem SlAt.lt {w : World} {v : Value} {l : List ByteArray} (h : SlAt w v l) : ∀ k, v.ownBlock = some k → k < w.heap.size := by
  intro k hk
  rcases h with ⟨rfl, _⟩ | ⟨g, off, cap, cur, rfl, hg, _⟩
  · simp [Value.ownBlock] at hk
  · simp [Value.ownBlock] at hk; subst hk; exact (Array.getElem?_eq_some_iff.1 hg).1
theorem cell_of_row (w : World) (g i : Nat) (cur : Array Value) (t : TypeId) (s : Nat × Nat) (h : w.heap[g]? = some (.cells cur t s)) : w.cell? ⟨g, i, none⟩ = cur[i]? := by
  simp [World.cell?, h]
theorem frozen_of_row (w : World) (g i : Nat) (cur : Array Value) (t : TypeId) (h : w.heap[g]? = some (.cells cur t (0, 0))) : w.frozen? ⟨g, i, none⟩ = false := by
  simp [World.frozen?, h]
theorem SlAt.strs {w : World} {v : Value} {l : List ByteArray} (h : SlAt w v l) : StrsAt w v l := by
  rcases h with ⟨rfl, rfl⟩ | ⟨g, off, cap, cur, rfl, hg, h1, h2, h3, h4⟩
  · exact .inl ⟨none, 0, rfl, rfl⟩
  · exact .inr ⟨g, off, cap, rfl, h1, h2, (Array.getElem?_eq_some_iff.1 hg).1, fun i hi => by rw [cell_of_row w g _ cur 9 _ hg]; exact h4 i hi⟩
theorem SlAt.of_owns {w : World} {b : Nat} {v : Value} {l : List ByteArray} {n : Nat} (h : w.ownsRow b 9 1 v n (vs l)) : SlAt w v l := by
  have hl : l.length = n := by have := h.1; simpa [vs] using this
  rcases h.2 with ⟨rfl, rfl⟩ | ⟨g, cap, cur, rfl, hb, hg, hnc, hcm, hcs, htake⟩
  · exact .inl ⟨rfl, List.eq_nil_of_length_eq_zero hl⟩
  · refine .inr ⟨g, 0, cap, cur, by rw [hl], hg, by omega, by unfold maxLen at hcm; omega, by omega, fun i hi => ?_⟩
    have : (cur.toList.take (n * 1))[i]? = (vs l)[i]? := by rw [htake]
    rw [List.getElem?_take, if_pos (by omega)] at this
    simp [vs] at this
    rw [Nat.zero_add, this]
    simp [List.getD, hi]
theorem ownsRow_new {w : World} {b : Nat} {e : TypeId} {size : Nat} {v : Value} {n : Nat} {xs : List Value} (h : w.ownsRow b e size v n xs) : v.ownBlock = none ∨ ∃ g, v.ownBlock = some g ∧ b ≤ g := by
  rcases h.2 with ⟨rfl, _⟩ | ⟨g, cap, cur, rfl, hg, r⟩
  · exact .inl rfl
  · exact .inr ⟨g, rfl, hg⟩
theorem heap_setCell_same (w : World) (g i : Nat) (cur : Array Value) (t : TypeId) (u : Value) (h : w.heap[g]? = some (.cells cur t (0, 0))) : (w.setCell ⟨g, i, none⟩ u).heap[g]? = some (.cells (cur.setIfInBounds i u) t (0, 0)) := by
  have hlt := (Array.getElem?_eq_some_iff.1 h).1
  have h2 := (Array.getElem?_eq_some_iff.1 h).2
  simp only [World.setCell]
  rw [Array.getElem?_eq_getElem (by rw [Array.size_modify]; exact hlt), Array.getElem_modify_self, h2]
  rfl
theorem heap_setCell_other (w : World) (p : Addr) (k : Nat) (u : Value) (h : k ≠ p.block) : (w.setCell p u).heap[k]? = w.heap[k]? := Below.heap_setCell w p u k h

theorem info9 : (Try.prog.info? 9).map (fun i => (i.zero, i.size, i.bytes)) = some (some (.string ByteArray.empty), 1, 16) := by kernel_rfl

/-- append of one. -/
theorem run_sl (w : World) (ty : TypeId) (v : Value) (l : List ByteArray) (h : SlAt w v l) (h1000 : l.length ≤ 1000) (x : ByteArray) (a : Addr) (hx : w.cell? a = some (.string x)) :
    ∃ v' w', (Builtin.append_ #[23, 23] ty #[v, .slice (some a) 1 1]).run Try.prog w = .ok v' w' ∧ SlAt w' v' (l ++ [x]) ∧ w.grownBy w' v.ownBlock ∧ Lies w v v' := by
  obtain ⟨i, hi, hz, hsize, hby⟩ := info_parts info9
  have ht := Try.underlying23
  have hnews : ∀ j u, ([Value.string x] : List Value)[j]? = some u → w.cell? (a.add j) = some u := by
    intro j u hj
    match j, hj with
    | 0, hj => simp at hj; subst hj; rw [show a.add 0 = a from by unfold Addr.add; split <;> simp_all]; exact hx
    | j + 1, hj => simp at hj
  have hone : ∀ u ∈ ([Value.string x] : List Value), u.oneCell' = true := by intro u hu; simp at hu; subst hu; rfl
  rcases h with ⟨rfl, rfl⟩ | ⟨g, off, cap, cur, rfl, hg, hnc, hcm, hsz, hcell⟩
  · obtain ⟨v', w', r1, r2, r3, r4⟩ := run_append_own (P := Try.prog) w w.heap.size 23 ty 9 i (.string ByteArray.empty) 1 16 ht hi hz hsize hby rfl (by decide) (.slice none 0 0) 0 [] (World.ownsRow_nil _ _ _ _) a 1 1 [.string x] rfl hnews hone (by unfold maxLen; omega) (by omega) (Nat.le_refl _)
    refine ⟨v', w', r1, SlAt.of_owns (l := [x]) (by simpa [vs] using r2), r3, ?_⟩
    rcases ownsRow_new r2 with h | h
    · exact .inr (.inl h)
    · exact .inr (.inr h)
  · have hcells : ∀ j, j < l.length → w.cell? ⟨g, off + j, none⟩ = some (.string (l.getD j ByteArray.empty)) := fun j hj => by
      rw [cell_of_row w g (off + j) cur 9 (0, 0) hg]; exact hcell j hj
    by_cases hroom : l.length + 1 ≤ cap
    · have hin : off + l.length < cur.size := by omega
      have hr := run_append_room_cells (P := Try.prog) w 23 ty 9 i ht hi g off l.length cap a 1 1 [.string x] (by simp [hsize]) hnews hone hroom
        (fun j hj => by
          have : j = 0 := by simpa using hj
          subst this
          rw [cell_of_row w g _ cur 9 (0, 0) hg, hsize]; simp [hin])
        (fun j hj => frozen_of_row w g _ cur 9 hg)
      rw [hsize, Nat.mul_one] at hr
      refine ⟨_, _, hr, .inr ⟨g, off, cap, cur.setIfInBounds (off + l.length) (.string x), by simp, heap_setCell_same w g (off + l.length) cur 9 _ hg, by simpa using hroom, hcm, by simpa using hsz, fun i' hi' => ?_⟩, ?_, .inl rfl⟩
      · simp at hi'
        rw [Array.getElem?_setIfInBounds]
        by_cases e : i' = l.length
        · subst e; simp [hin]
        · rw [if_neg (by omega), hcell i' (by omega)]
          simp [List.getD, List.getElem?_append, show i' < l.length by omega]
      · exact ⟨rfl, rfl, rfl, by simp [World.setCells], fun k _ hk => heap_setCell_other w ⟨g, off + l.length, none⟩ k _ (fun e => hk (by simp [Value.ownBlock, e]))⟩
    · obtain ⟨v', w', r1, r2, r3⟩ := run_append_arg_grows (P := Try.prog) w 23 ty 9 i (.string ByteArray.empty) 1 16 ht hi hz hsize hby rfl (by decide) ⟨g, off, none⟩ l.length cap (vs l) (by simp [vs])
        (fun j u hu => by
          rw [Addr.add_lit]
          have hj : j < l.length := by have := (List.getElem?_eq_some_iff.1 hu).1; simpa [vs] using this
          rw [hcells j hj, ← hu]; simp [List.getD, vs, hj])
        a 1 1 [.string x] rfl hnews (by omega) (by unfold maxLen; omega) (by omega)
      refine ⟨v', w', r1, SlAt.of_owns (l := l ++ [x]) (by simpa [vs] using r2), ⟨r3.os, r3.tape, r3.output, r3.size, fun k hk _ => r3.block k hk (by simp)⟩, ?_⟩
      rcases ownsRow_new r2 with h | h
      · exact .inr (.inl h)
      · exact .inr (.inr h)
/-- append, under a name that the walk does not open. -/
def appWr (ats : Array TypeId) (ty : TypeId) (args : Array Value) : Sem Value := Builtin.append_ ats ty args
theorem appWr_eq (ats : Array TypeId) (ty : TypeId) (cs : Array Bool) (args : Array Value) : builtin .append ats ty cs args = (do pure (.value (← appWr ats ty args))) := rfl
end Go.Proofs.Ytfdfljcieeccbaa
