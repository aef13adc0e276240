/- WORDS AND LEMMAS ON MEMORY for the proofs of this seat: 'Chg l w w'': of what lay in w nothing but the blocks of l has turned. No conditions. -/
import Derived.Test.YtdpkplnffemmgaaChecked
import Derived.Test.YtdpkplnffemmgaaHeap
import Derived.WalkKit
import Derived.WalkLawsBesides
import Derived.WalkSpells
import Derived.Deep.QuietTactic
import Derived.BigQuiet
import Derived.Outline
import Derived.Lib.Hide
namespace Go.Proofs.Ytdpkplnffemmgaa
open Go.RowKit

/-- nothing but the blocks of l has turned. -/
structure Chg (l : List Nat) (w w' : World) : Prop where
  os : w'.os = w.os
  tape : w'.tape = w.tape
  output : w'.output = w.output
  size : w.heap.size ≤ w'.heap.size
  block : ∀ k, k < w.heap.size → k ∉ l → w'.heap[k]? = w.heap[k]?

theorem Chg.refl (l : List Nat) (w : World) : Chg l w w := ⟨rfl, rfl, rfl, Nat.le_refl _, fun _ _ _ => rfl⟩
theorem Chg.trans {l : List Nat} {a b c : World} (h : Chg l a b) (k : Chg l b c) : Chg l a c :=
  ⟨k.os.trans h.os, k.tape.trans h.tape, k.output.trans h.output, Nat.le_trans h.size k.size, fun i hi hn => (k.block i (Nat.lt_of_lt_of_le hi h.size) hn).trans (h.block i hi hn)⟩
theorem Chg.mono {l l' : List Nat} {w w' : World} (h : Chg l w w') (hs : ∀ x, x ∈ l → x ∈ l' ∨ w.heap.size ≤ x) : Chg l' w w' :=
  ⟨h.os, h.tape, h.output, h.size, fun k hk hn => h.block k hk (fun hm => by rcases hs k hm with h | h; exact hn h; omega)⟩
/-- the second step may also turn what the first has made. -/
theorem Chg.trans' {l l' : List Nat} {a b c : World} (h : Chg l a b) (k : Chg l' b c) (hs : ∀ x, x ∈ l' → x ∈ l ∨ a.heap.size ≤ x) : Chg l a c :=
  ⟨k.os.trans h.os, k.tape.trans h.tape, k.output.trans h.output, Nat.le_trans h.size k.size, fun i hi hn => (k.block i (Nat.lt_of_lt_of_le hi h.size) (fun hm => by rcases hs i hm with h | h; exact hn h; omega)).trans (h.block i hi hn)⟩
theorem Chg.drew {l : List Nat} {a w : World} (h : Chg l a w) : Chg l a w.drew := ⟨h.os, h.tape, h.output, h.size, h.block⟩
theorem Chg.drewN {l : List Nat} {a w : World} (n : Nat) (h : Chg l a w) : Chg l a (w.drewN n) := ⟨h.os, h.tape, h.output, h.size, h.block⟩
theorem Chg.alloc {l : List Nat} {a w : World} (h : Chg l a w) (o : Obj) : Chg l a (w.alloc o) :=
  h.trans ⟨rfl, rfl, rfl, by simp, fun k hk _ => Below.heap_alloc _ _ _ hk⟩
theorem Chg.setCell {l : List Nat} {a w : World} (h : Chg l a w) {p : Addr} (hp : p.block ∈ l ∨ a.heap.size ≤ p.block) (u : Value) : Chg l a (w.setCell p u) := by
  refine ⟨h.os, h.tape, h.output, Nat.le_trans h.size (by simp [World.setCell]), fun k hk hn => ?_⟩
  rw [Below.heap_setCell _ _ _ _ (by rcases hp with hp | hp; exact fun e => hn (e ▸ hp); omega)]
  exact h.block k hk hn
theorem Chg.grown {l : List Nat} {a w w' : World} {row : Option Nat} (h : Chg l a w) (hg : w.grownBy w' row) (hr : ∀ k, row = some k → k ∈ l ∨ a.heap.size ≤ k) : Chg l a w' := by
  refine ⟨hg.os.trans h.os, hg.tape.trans h.tape, hg.output.trans h.output, Nat.le_trans h.size hg.size, fun k hk hn => ?_⟩
  refine (hg.block k (Nat.lt_of_lt_of_le hk h.size) (fun e => ?_)).trans (h.block k hk hn)
  rcases hr k e.symm with h | h
  · exact hn h
  · omega
theorem Chg.below {l : List Nat} {w w' : World} {B : Nat} (h : Chg l w w') (hB : B ≤ w.heap.size) (hl : ∀ x, x ∈ l → B ≤ x) : Below B w w' :=
  ⟨h.os, h.tape, h.output, h.size, fun k hk => h.block k (by omega) (fun hm => by have := hl k hm; omega)⟩
theorem Chg.of_below {w w' : World} (h : Below w.heap.size w w') : Chg [] w w' := ⟨h.os, h.tape, h.output, h.size, fun k hk _ => h.block k hk⟩
theorem Chg.heap {l : List Nat} {w w' : World} (h : Chg l w w') {k : Nat} {o : Obj} (hk : w.heap[k]? = some o) (hn : k ∉ l) : w'.heap[k]? = some o :=
  (h.block k (Array.getElem?_eq_some_iff.1 hk).1 hn).trans hk
theorem Chg.cell {l : List Nat} {w w' : World} (h : Chg l w w') {p : Addr} {v : Value} (hk : w.cell? p = some v) (hn : p.block ∉ l) : w'.cell? p = some v :=
  (World.cell?_of_block (w := w) (h.block p.block (World.block_lt_of_cell? w p hk) hn)).trans hk
theorem Chg.row {l : List Nat} {w w' : World} (h : Chg l w w') {base : Nat} {e : TypeId} {size : Nat} {v : Value} {n : Nat} {xs : List Value} (ho : w.ownsRow base e size v n xs) (hn : ∀ k, v.ownBlock = some k → k ∉ l) : w'.ownsRow base e size v n xs := by
  refine ⟨ho.1, ?_⟩
  rcases ho.2 with hx | ⟨g, cap, cur, rfl, hb, hg, r⟩
  · exact Or.inl hx
  · exact Or.inr ⟨g, cap, cur, rfl, hb, h.heap hg (hn g (by simp [Value.ownBlock])), r⟩

/-- the cells of things. -/
def tcells (t : Th) : List Value := [.int .i64 t.id, .int .i64 t.fl, .int .i64 t.st]
def lcells (ts : List Th) : List Value := ts.flatMap tcells
theorem lcells_length (ts : List Th) : (lcells ts).length = ts.length * 3 := by
  induction ts with
  | nil => rfl
  | cons t ts ih => simp only [lcells, List.flatMap_cons, List.length_append, List.length_cons] at *; rw [ih]; simp [tcells]; omega
theorem lcells_cons (t : Th) (ts : List Th) : lcells (t :: ts) = .int .i64 t.id :: .int .i64 t.fl :: .int .i64 t.st :: lcells ts := by simp [lcells, tcells]
theorem lcells_append (a b : List Th) : lcells (a ++ b) = lcells a ++ lcells b := by simp [lcells]
theorem lcells_take (ts : List Th) (n : Nat) : (lcells ts).take (n * 3) = lcells (ts.take n) := by
  induction ts generalizing n with
  | nil => simp [lcells]
  | cons t ts ih =>
    cases n with
    | zero => simp [lcells]
    | succ n =>
      rw [List.take_succ_cons, lcells_cons, lcells_cons, show (n + 1) * 3 = n * 3 + 1 + 1 + 1 from by omega]
      simp only [List.take_succ_cons]
      rw [ih]
theorem lcells_get (ts : List Th) (i : Nat) (h : i < ts.length) :
    (lcells ts)[i * 3]? = some (.int .i64 (gt ts i).id) ∧ (lcells ts)[i * 3 + 1]? = some (.int .i64 (gt ts i).fl) ∧ (lcells ts)[i * 3 + 2]? = some (.int .i64 (gt ts i).st) := by
  induction ts generalizing i with
  | nil => simp at h
  | cons t ts ih =>
    rw [lcells_cons]
    cases i with
    | zero => simp [gt]
    | succ i =>
      have := ih i (by simpa using h)
      rw [show (i + 1) * 3 = i * 3 + 1 + 1 + 1 from by omega]
      simp only [List.getElem?_cons_succ]
      have g : gt (t :: ts) (i + 1) = gt ts i := by simp [gt]
      rw [g]
      exact this
theorem lcells_set (ts : List Th) (i : Nat) (x : Th) (h : i < ts.length) :
    (((lcells ts).set (i * 3) (.int .i64 x.id)).set (i * 3 + 1) (.int .i64 x.fl)).set (i * 3 + 2) (.int .i64 x.st) = lcells (ts.set i x) := by
  induction ts generalizing i with
  | nil => simp at h
  | cons t ts ih =>
    cases i with
    | zero => simp [lcells, tcells]
    | succ i =>
      have := ih i (by simpa using h)
      rw [List.set_cons_succ, lcells_cons, lcells_cons, ← this]
      rw [show (i + 1) * 3 = i * 3 + 1 + 1 + 1 from by omega]
      rw [show i * 3 + 1 + 1 + 1 + 1 = (i * 3 + 1) + 1 + 1 + 1 from by omega, show i * 3 + 1 + 1 + 1 + 2 = (i * 3 + 2) + 1 + 1 + 1 from by omega]
      simp only [List.set_cons_succ]

/-- a queue in memory. -/
def Queue (w : World) (qb cap : Nat) (ts : List Th) : Prop := w.ownsRow 0 50 3 (.slice (some ⟨qb, 0, none⟩) ts.length cap) ts.length (lcells ts)

theorem Queue.cells {w : World} {qb cap : Nat} {ts : List Th} (h : Queue w qb cap ts) (i : Nat) (hi : i < ts.length) :
    w.cell? ⟨qb, i * 3, none⟩ = some (.int .i64 (gt ts i).id) ∧ w.cell? ⟨qb, i * 3 + 1, none⟩ = some (.int .i64 (gt ts i).fl) ∧ w.cell? ⟨qb, i * 3 + 2, none⟩ = some (.int .i64 (gt ts i).st) := by
  have e := fun j hj => World.ownsRow.cellAt h j hj
  obtain ⟨g1, g2, g3⟩ := lcells_get ts i hi
  rw [e _ (by omega), e _ (by omega), e _ (by omega)]
  exact ⟨g1, g2, g3⟩
theorem Queue.frozen {w : World} {qb cap : Nat} {ts : List Th} (h : Queue w qb cap ts) (j : Nat) : w.frozen? ⟨qb, j, none⟩ = false := World.ownsRow.frozenAt h j
theorem Queue.cap_le {w : World} {qb cap : Nat} {ts : List Th} (h : Queue w qb cap ts) : ts.length ≤ cap ∧ cap ≤ maxLen ∧ qb < w.heap.size := by
  rcases h.2 with ⟨h', _⟩ | ⟨g', cap', cur, h', _, hg, a, b, _⟩
  · simp at h'
  · simp only [Value.slice.injEq, Option.some.injEq, Addr.mk.injEq, and_true, true_and] at h'
    obtain ⟨rfl, rfl⟩ := h'
    exact ⟨a, b, (Array.getElem?_eq_some_iff.1 hg).1⟩
theorem Queue.chg {l : List Nat} {w w' : World} (h : Chg l w w') {qb cap : Nat} {ts : List Th} (hq : Queue w qb cap ts) (hn : qb ∉ l) : Queue w' qb cap ts :=
  h.row hq (fun k hk => by simp [Value.ownBlock] at hk; subst hk; exact hn)
theorem Queue.drew {w : World} {qb cap : Nat} {ts : List Th} (hq : Queue w qb cap ts) : Queue w.drew qb cap ts := hq

/-- a thing stored. -/
theorem Queue.put {w : World} {qb cap : Nat} {ts : List Th} (h : Queue w qb cap ts) (i : Nat) (x : Th) (hi : i < ts.length) :
    Queue (((w.setCell ⟨qb, i * 3, none⟩ (.int .i64 x.id)).setCell ⟨qb, i * 3 + 1, none⟩ (.int .i64 x.fl)).setCell ⟨qb, i * 3 + 2, none⟩ (.int .i64 x.st)) qb cap (ts.set i x) := by
  have h1 := (World.ownsRow.stored h (i * 3) (.int .i64 x.id)).1
  have h2 := (World.ownsRow.stored h1 (i * 3 + 1) (.int .i64 x.fl)).1
  have h3 := (World.ownsRow.stored h2 (i * 3 + 2) (.int .i64 x.st)).1
  rw [lcells_set ts i x hi] at h3
  unfold Queue
  rw [List.length_set]
  exact h3

/-- a swap. -/
theorem Queue.swap {w : World} {qb cap : Nat} {ts : List Th} (h : Queue w qb cap ts) (i j : Nat) (hi : i < ts.length) (hj : j < ts.length) :
    Queue ((((((w.setCell ⟨qb, i * 3, none⟩ (.int .i64 (gt ts j).id)).setCell ⟨qb, i * 3 + 1, none⟩ (.int .i64 (gt ts j).fl)).setCell ⟨qb, i * 3 + 2, none⟩ (.int .i64 (gt ts j).st)).setCell
      ⟨qb, j * 3, none⟩ (.int .i64 (gt ts i).id)).setCell ⟨qb, j * 3 + 1, none⟩ (.int .i64 (gt ts i).fl)).setCell ⟨qb, j * 3 + 2, none⟩ (.int .i64 (gt ts i).st)) qb cap (swp ts i j) :=
  (h.put i (gt ts j) hi).put j (gt ts i) (by simpa using hj)

end Go.Proofs.Ytdpkplnffemmgaa
