/- THE WALKS of (*line).Push and (*line).Pop. Conditions: a line of at most 64 lies behind the pointer (Pop: at least one). -/
import Derived.Test.YtdpkplnffemmgaaLine
import Derived.Test.YtdpkplnffemmgaaApp
namespace Go.Proofs.Ytdpkplnffemmgaa
open Go.RowKit
theorem info50 : (Try.prog.info? 50).map (fun i => (i.zero, i.size, i.bytes)) = some (some (.agg #[.int .i64 0, .int .i64 0, .int .i64 0]), 3, 24) := by kernel_rfl
theorem ta50 (a b c : Value) (w : World) : (Instr.typeAssert (.iface 50 (.agg #[a, b, c])) 20 50 true).run Try.prog w = .ok (.tuple #[.agg #[a, b, c], .bool true]) w := by kernel_rfl
/-- a line behind a pointer. -/
structure LineAt (w : World) (fb fo : Nat) (qv : Value) (ts : List Th) : Prop where
  cell : w.cell? ⟨fb, fo, none⟩ = some qv
  frozen : w.frozen? ⟨fb, fo, none⟩ = false
  owns : w.ownsRow 0 50 3 qv ts.length (lcells ts)
  apart : ∀ k, qv.ownBlock = some k → k ≠ fb

theorem Chg.frz {l : List Nat} {w w' : World} (h : Chg l w w') {p : Addr} (hf : w.frozen? p = false) (hb : p.block < w.heap.size) (hn : p.block ∉ l) : w'.frozen? p = false :=
  (World.frozen?_of_block (w := w) (h.block p.block hb hn)).trans hf
theorem grown_frz {w w' : World} {row : Option Nat} (hg : w.grownBy w' row) {p : Addr} (hf : w.frozen? p = false) (hb : p.block < w.heap.size) (hne : some p.block ≠ row) : w'.frozen? p = false :=
  (World.frozen?_of_block (hg.block p.block hb hne)).trans hf

/-- beside one cell a block is as it was. -/
def Oth (fb fo : Nat) (w w' : World) : Prop := ∀ o, o ≠ fo → w'.cell? ⟨fb, o, none⟩ = w.cell? ⟨fb, o, none⟩ ∧ w'.frozen? ⟨fb, o, none⟩ = w.frozen? ⟨fb, o, none⟩
theorem Oth.trans {fb fo : Nat} {a b c : World} (h : Oth fb fo a b) (k : Oth fb fo b c) : Oth fb fo a c := fun o ho => ⟨(k o ho).1.trans (h o ho).1, (k o ho).2.trans (h o ho).2⟩
theorem Oth.of_chg {l : List Nat} {fb fo : Nat} {w w' : World} (h : Chg l w w') (hb : fb < w.heap.size) (hn : fb ∉ l) : Oth fb fo w w' := fun o _ => ⟨World.cell?_of_block (h.block fb hb hn), World.frozen?_of_block (h.block fb hb hn)⟩
theorem Oth.setCell (fb fo : Nat) (w : World) (v : Value) : Oth fb fo w (w.setCell ⟨fb, fo, none⟩ v) := fun o ho => ⟨World.cell?_setCell_other _ _ _ _ (fun e => ho (by injection e with _ e _; exact e.symm)), by rw [World.frozen?_setCell]⟩

/-- what a change of a line turns: the field's block and the row. -/
def LChg (fb : Nat) (qv qv' : Value) (w w' : World) : Prop := Chg (fb :: qv.ownBlock.toList) w w' ∧ Lies w qv qv'

def Pushed (fb fo : Nat) (qv : Value) (ts : List Th) (w : World) (e : Ending) (w' : World) : Prop :=
  e = .returned (.tuple #[]) ∧ Oth fb fo w w' ∧ ∃ qv', LineAt w' fb fo qv' ts ∧ LChg fb qv qv' w w' ∧ qv' ≠ .slice none 0 0

theorem tcells_one (t : Th) : ∀ u ∈ tcells t, u.oneCell' = true := by
  intro u hu; simp [tcells] at hu; rcases hu with rfl | rfl | rfl <;> rfl
theorem tcells_cell (w : World) (t : Th) (O : Obj) : ∀ j u, (tcells t)[j]? = some u →
    ((w.alloc O).alloc (.cells #[.int .i64 t.id, .int .i64 t.fl, .int .i64 t.st] 50)).drew.cell? ((⟨w.heap.size + 1, 0, none⟩ : Addr).add j) = some u := by
  intro j u hj
  have hs : w.heap.size + 1 = (w.alloc O).heap.size := by simp
  rw [World.cell?_drew, Addr.add_lit, hs]
  match j, hj with
  | 0, hj => simp [tcells] at hj; subst hj; simp
  | 1, hj => simp [tcells] at hj; subst hj; simp
  | 2, hj => simp [tcells] at hj; subst hj; simp
  | j + 3, hj => simp [tcells] at hj
theorem owned_shape {w : World} {b : Nat} {e : TypeId} {size : Nat} {v : Value} {n : Nat} {xs : List Value} (h : w.ownsRow b e size v n xs) (hne : v ≠ .slice none 0 0) : ∃ g cap, v = .slice (some ⟨g, 0, none⟩) n cap := by
  rcases h.2 with ⟨rfl, _⟩ | ⟨g, cap, cur, rfl, _⟩
  · exact absurd rfl hne
  · exact ⟨g, cap, rfl⟩
theorem push_end (fb fo : Nat) (qv v' : Value) (ts : List Th) (t : Th) (w w2 w3 : World) (hL : LineAt w fb fo qv ts) (h2 : Chg [] w w2) (hs : w.heap.size ≤ w2.heap.size)
    (ho : w3.ownsRow 0 50 3 v' (ts.length + 1) (lcells ts ++ tcells t)) (hg : w2.grownBy w3 qv.ownBlock) (hi : v' = .slice none 0 0 ↔ qv = .slice none 0 0 ∧ (1 : Nat) = 0) (hl : Lies w2 qv v') :
    Pushed fb fo qv (ts ++ [t]) w (.returned (.tuple #[])) (w3.setCell ⟨fb, fo, none⟩ v') := by
  have hfb := World.block_lt_of_cell? w _ hL.cell
  have hne : some fb ≠ qv.ownBlock := fun e => hL.apart fb e.symm rfl
  have hC3 : Chg (fb :: qv.ownBlock.toList) w w3 := (h2.mono (l' := fb :: qv.ownBlock.toList) (fun x hx => by simp at hx)).grown hg (fun k hk => .inl (by simp [hk]))
  have h3c : w3.cell? ⟨fb, fo, none⟩ = some qv := hg.cell (a := ⟨fb, fo, none⟩) (h2.cell hL.cell (by simp)) hne
  have h3f : w3.frozen? ⟨fb, fo, none⟩ = false := (World.frozen?_of_block (w := w) ((hg.block fb (by simpa using Nat.lt_of_lt_of_le hfb hs) hne).trans (h2.block fb hfb (by simp)))).trans hL.frozen
  have happ : ∀ k, v'.ownBlock = some k → k ≠ fb := by
    intro k hk e
    subst e
    rcases hl with h | h | ⟨g, h, hge⟩
    · exact hL.apart k (h ▸ hk) rfl
    · rw [h] at hk; cases hk
    · rw [h] at hk; cases hk
      simp at hfb
      omega
  have hoth : Oth fb fo w w3 := (Oth.of_chg h2 hfb (by simp)).trans (fun o _ => ⟨World.cell?_of_block (hg.block fb (Nat.lt_of_lt_of_le hfb hs) hne), World.frozen?_of_block (hg.block fb (Nat.lt_of_lt_of_le hfb hs) hne)⟩)
  refine ⟨rfl, hoth.trans (Oth.setCell _ _ _ _), v', ⟨?_, ?_, ?_, happ⟩, ⟨hC3.setCell (.inl (by simp)) _, ?_⟩, ?_⟩
  · exact World.cell?_setCell_same _ _ _ h3c
  · rw [World.frozen?_setCell]; exact h3f
  · rw [List.length_append, lcells_append]
    have : lcells [t] = tcells t := by simp [lcells]
    rw [this]
    have hc2 : Chg [fb] w3 (w3.setCell ⟨fb, fo, none⟩ v') := (Chg.refl _ _).setCell (.inl (by simp)) _
    exact hc2.row ho (fun k hk => by have := happ k hk; simpa using this)
  · rcases hl with h | h | ⟨g, h, hge⟩
    · exact .inl h
    · exact .inr (.inl h)
    · exact .inr (.inr ⟨g, h, by omega⟩)
  · intro e; exact absurd (hi.1 e).2 (by omega)
set_option maxHeartbeats 400000 in
theorem push_l (fb fo : Nat) (qv : Value) (ts : List Th) (t : Th) (w : World) (hL : LineAt w fb fo qv ts) (h64 : ts.length ≤ 64) :
   Calls Try.prog 40 #[.pointer (some ⟨fb, fo, none⟩), .iface 50 (.agg #[.int .i64 t.id, .int .i64 t.fl, .int .i64 t.st])] w (Pushed fb fo qv (ts ++ [t]) w) := by
  have hc := hL.cell
  have hf := hL.frozen
  have hfb := World.block_lt_of_cell? w _ hc
  have HO := Lib.hid hL.owns
  have HA : Hid (∀ k, qv.ownBlock = some k → k ≠ fb) := hL.apart
  have ht := fun w => ta50 (.int .i64 t.id) (.int .i64 t.fl) (.int .i64 t.st) w
  have HC := Lib.hid (tcells_cell w t (.cells #[.int .i64 t.id, .int .i64 t.fl, .int .i64 t.st] 50))
  have HE := Lib.hid (fun v' w2 w3 => push_end fb fo qv v' ts t w w2 w3 hL)
  clear hL
  obtain ⟨i0, hi, hz0, hz1, hz2⟩ := info_parts info50
  go_enter Try.func40, Try.ntmps40
  go_wp2
  go_region_law ((refine step_app rfl (.tmp 15) (.tmp 17) 44 rfl 0 50 i0 (.agg #[.int .i64 0, .int .i64 0, .int .i64 0]) 3 24 Try.underlying44 hi hz0 hz1 hz2 rfl (by decide) qv ts.length (lcells ts) rfl ((HO.out.alloc _).alloc _) ⟨w.heap.size + 1, 0, none⟩ 1 1 (tcells t) rfl rfl HC.out (tcells_one t) (by unfold maxLen; omega) (by omega) (Nat.zero_le _) ?_; intro v' w3 hown hgr hiff hl; have hc3 := hgr.cell (a := ⟨fb, fo, none⟩) (v := qv) ((((Chg.refl [] w).alloc _).alloc _).drew.cell hc (by simp)) (fun e => HA.out fb e.symm rfl); have hf3 := grown_frz hgr (p := ⟨fb, fo, none⟩) ((((Chg.refl [] w).alloc _).alloc _).drew.frz hf hfb (by simp)) (Nat.lt_of_lt_of_le hfb (((Chg.refl [] w).alloc _).alloc _).drew.size) (fun e => HA.out fb e.symm rfl); obtain ⟨g, cap, rfl⟩ := owned_shape hown (fun e => absurd (hiff.1 e).2 (by omega)); have HH := Lib.hid (HE.out _ _ w3 (((Chg.refl [] w).alloc _).alloc _).drew (by simp; omega) hown hgr hiff hl); clear hown hgr hiff hl))
  all_goals go_wp2
  all_goals go_end0
  all_goals exact HH.out

def Popped (fb fo qb cap m : Nat) (ts : List Th) (w : World) (e : Ending) (w' : World) : Prop :=
  e = .returned (.iface 50 (.agg #[.int .i64 (gt ts m).id, .int .i64 (gt ts m).fl, .int .i64 (gt ts m).st])) ∧ LineAt w' fb fo (.slice (some ⟨qb, 0, none⟩) m cap) (ts.take m) ∧ Chg [fb] w w' ∧ Oth fb fo w w'

theorem LineAt.queue {w : World} {fb fo qb n cap : Nat} {ts : List Th} (h : LineAt w fb fo (.slice (some ⟨qb, 0, none⟩) n cap) ts) : n = ts.length ∧ Queue w qb cap ts ∧ qb ≠ fb := by
  have hn : n = ts.length := by
    rcases h.owns.2 with ⟨h', _⟩ | ⟨g', cap', cur, h', _⟩
    · simp at h'
    · simp at h'; exact h'.2.1
  subst hn
  exact ⟨rfl, h.owns, h.apart qb rfl⟩

theorem ownsRow_shorter {w : World} {b : Nat} {e : TypeId} {qb n m cap : Nat} {xs : List Value} {size : Nat} (h : w.ownsRow b e size (.slice (some ⟨qb, 0, none⟩) n cap) n xs) (hm : m ≤ n) : w.ownsRow b e size (.slice (some ⟨qb, 0, none⟩) m cap) m (xs.take (m * size)) := by
  refine ⟨?_, ?_⟩
  · rw [List.length_take, h.1]; exact Nat.min_eq_left (Nat.mul_le_mul_right _ hm)
  · rcases h.2 with ⟨h', _⟩ | ⟨g', cap', cur, h', hb, hg, hnc, hcm, hcs, htake⟩
    · simp at h'
    · simp only [Value.slice.injEq, Option.some.injEq, Addr.mk.injEq, and_true, true_and] at h'
      obtain ⟨rfl, rfl⟩ := h'
      refine .inr ⟨qb, cap, cur, rfl, hb, hg, by omega, hcm, hcs, ?_⟩
      rw [← htake, List.take_take, Nat.min_eq_left (Nat.mul_le_mul_right _ hm)]

theorem LineAt.chg {l : List Nat} {w w' : World} {fb fo : Nat} {qv : Value} {ts : List Th} (h : LineAt w fb fo qv ts) (hc : Chg l w w') (h1 : fb ∉ l) (h2 : ∀ k, qv.ownBlock = some k → k ∉ l) : LineAt w' fb fo qv ts :=
  ⟨hc.cell h.cell h1, hc.frz h.frozen (World.block_lt_of_cell? w _ h.cell) h1, hc.row h.owns h2, h.apart⟩
theorem pop_end (fb fo qb cap m : Nat) (ts : List Th) (w w2 : World) (hL : LineAt w fb fo (.slice (some ⟨qb, 0, none⟩) (m + 1) cap) ts) (h2 : Chg [] w w2) :
    LineAt (w2.setCell ⟨fb, fo, none⟩ (.slice (some ⟨qb, 0, none⟩) m cap)) fb fo (.slice (some ⟨qb, 0, none⟩) m cap) (ts.take m) ∧ Chg [fb] w (w2.setCell ⟨fb, fo, none⟩ (.slice (some ⟨qb, 0, none⟩) m cap)) := by
  obtain ⟨hn, hq, hne⟩ := hL.queue
  have hfb := World.block_lt_of_cell? w _ hL.cell
  have hC : Chg [fb] w (w2.setCell ⟨fb, fo, none⟩ (.slice (some ⟨qb, 0, none⟩) m cap)) := (h2.mono (fun x hx => by simp at hx)).setCell (.inl (by simp)) _
  refine ⟨⟨World.cell?_setCell_same _ _ _ (h2.cell hL.cell (by simp)), ?_, ?_, ?_⟩, hC⟩
  · rw [World.frozen?_setCell]; exact h2.frz hL.frozen hfb (by simp)
  · have ho := hC.row hL.owns (fun k hk => by simp [Value.ownBlock] at hk; subst hk; simpa using hne)
    rw [← hn] at ho
    have := ownsRow_shorter ho (m := m) (by omega)
    rw [lcells_take] at this
    rw [List.length_take, show min m ts.length = m from by omega]
    exact this
  · intro k hk; simp [Value.ownBlock] at hk; subst hk; exact hne

set_option maxHeartbeats 400000 in
theorem pop_l (fb fo qb cap m : Nat) (ts : List Th) (w : World) (hL : LineAt w fb fo (.slice (some ⟨qb, 0, none⟩) (m + 1) cap) ts) (h65 : m ≤ 65) :
   Calls Try.prog 39 #[.pointer (some ⟨fb, fo, none⟩)] w (Popped fb fo qb cap m ts w) := by
  obtain ⟨hn, hq, hne⟩ := hL.queue
  have hc := hL.cell
  have hf := hL.frozen
  have hfb := World.block_lt_of_cell? w _ hc
  obtain ⟨c0, c1, c2⟩ := hq.cells m (by omega)
  obtain ⟨hn1, hm1, _⟩ := hq.cap_le
  unfold maxLen at hm1
  have hcap : cap ≤ 9223372036854775807 := by omega
  have hmc : m + 1 ≤ cap := by omega
  clear hm1 hn1
  have HE := Lib.hid (fun O => show Popped fb fo qb cap m ts w (.returned (.iface 50 (.agg #[.int .i64 (gt ts m).id, .int .i64 (gt ts m).fl, .int .i64 (gt ts m).st]))) ((w.setCell ⟨fb, fo, none⟩ (.slice (some ⟨qb, 0, none⟩) m cap)).alloc O) from have p := pop_end fb fo qb cap m ts w w hL (Chg.refl _ _); ⟨rfl, p.1.chg ((Chg.refl [] _).alloc O) (by simp) (by simp), p.2.alloc O, (Oth.setCell _ _ _ _).trans (Oth.of_chg ((Chg.refl [] _).alloc O) (by simpa using hfb) (by simp))⟩)
  have hfb' : fb < w.heap.size := hfb
  have hqb' : qb < w.heap.size := by have := World.block_lt_of_cell? w _ c0; exact this
  clear hL hq hfb hn
  generalize gt ts m = a at *
  go_enter Try.func39, Try.ntmps39
  go_wp2
  go_ret
  exact HE.out _
end Go.Proofs.Ytdpkplnffemmgaa
