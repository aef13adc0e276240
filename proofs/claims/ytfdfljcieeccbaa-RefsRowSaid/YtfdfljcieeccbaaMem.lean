/- WORDS AND LEMMAS ON MEMORY for the proofs of this seat: 'Chg l w w'': of what lay in w nothing but the blocks of l has turned; 'FM w b c f': block b is a map of c entries from strings that gives what f says; 'StrsAt', 'CardsAt'. No conditions. -/
import Derived.Test.YtfdfljcieeccbaaName
import Derived.Maps.Range
import Derived.StringKeys
import Derived.SizedLaws
namespace Go.Proofs.Ytfdfljcieeccbaa
open Go.RowKit

/-- nothing but the blocks of l has turned. -/
structure Chg (l : List Nat) (w w' : World) : Prop where
  os : w'.os = w.os
  tape : w'.tape = w.tape
  output : w'.output = w.output
  size : w.heap.size ≤ w'.heap.size
  block : ∀ k, k < w.heap.size → k ∉ l → w'.heap[k]? = w.heap[k]?

theorem Chg.refl (l : List Nat) (w : World) : Chg l w w := ⟨rfl, rfl, rfl, Nat.le_refl _, fun _ _ _ => rfl⟩
theorem Chg.trans {l : List Nat} {a b c : World} (h : Chg l a b) (k : Chg l b c) : Chg l a c :=
  ⟨k.os.trans h.os, k.tape.trans h.tape, k.output.trans h.output, Nat.le_trans h.size k.size, fun i hi hn => (k.block i (Nat.lt_of_lt_of_le hi h.size) hn).trans (h.block i hi hn)⟩
theorem Chg.mono {l l' : List Nat} {w w' : World} (h : Chg l w w') (hs : ∀ x, x ∈ l → x ∈ l' ∨ w.heap.size ≤ x) : Chg l' w w' :=
  ⟨h.os, h.tape, h.output, h.size, fun k hk hn => h.block k hk (fun hm => by rcases hs k hm with h | h; exact hn h; omega)⟩
/-- the second step may also turn what the first has made. -/
theorem Chg.trans' {l l' : List Nat} {a b c : World} (h : Chg l a b) (k : Chg l' b c) (hs : ∀ x, x ∈ l' → x ∈ l ∨ a.heap.size ≤ x) : Chg l a c :=
  ⟨k.os.trans h.os, k.tape.trans h.tape, k.output.trans h.output, Nat.le_trans h.size k.size, fun i hi hn => (k.block i (Nat.lt_of_lt_of_le hi h.size) (fun hm => by rcases hs i hm with h | h; exact hn h; omega)).trans (h.block i hi hn)⟩
theorem Chg.drew {l : List Nat} {a w : World} (h : Chg l a w) : Chg l a w.drew := ⟨h.os, h.tape, h.output, h.size, h.block⟩
theorem Chg.drewN {l : List Nat} {a w : World} (n : Nat) (h : Chg l a w) : Chg l a (w.drewN n) := ⟨h.os, h.tape, h.output, h.size, h.block⟩
theorem Chg.alloc {l : List Nat} {a w : World} (h : Chg l a w) (o : Obj) : Chg l a (w.alloc o) :=
  h.trans ⟨rfl, rfl, rfl, by simp, fun k hk _ => Below.heap_alloc _ _ _ hk⟩
theorem Chg.setCell {l : List Nat} {a w : World} (h : Chg l a w) {p : Addr} (hp : p.block ∈ l ∨ a.heap.size ≤ p.block) (u : Value) : Chg l a (w.setCell p u) := by
  refine ⟨h.os, h.tape, h.output, Nat.le_trans h.size (by simp [World.setCell]), fun k hk hn => ?_⟩
  rw [Below.heap_setCell _ _ _ _ (by rcases hp with hp | hp; exact fun e => hn (e ▸ hp); omega)]
  exact h.block k hk hn
theorem Chg.grown {l : List Nat} {a w w' : World} {row : Option Nat} (h : Chg l a w) (hg : w.grownBy w' row) (hr : ∀ k, row = some k → k ∈ l ∨ a.heap.size ≤ k) : Chg l a w' := by
  refine ⟨hg.os.trans h.os, hg.tape.trans h.tape, hg.output.trans h.output, Nat.le_trans h.size hg.size, fun k hk hn => ?_⟩
  refine (hg.block k (Nat.lt_of_lt_of_le hk h.size) (fun e => ?_)).trans (h.block k hk hn)
  rcases hr k e.symm with h | h
  · exact hn h
  · omega
theorem Chg.below {l : List Nat} {w w' : World} {B : Nat} (h : Chg l w w') (hB : B ≤ w.heap.size) (hl : ∀ x, x ∈ l → B ≤ x) : Below B w w' :=
  ⟨h.os, h.tape, h.output, h.size, fun k hk => h.block k (by omega) (fun hm => by have := hl k hm; omega)⟩
theorem Chg.of_below {w w' : World} (h : Below w.heap.size w w') : Chg [] w w' := ⟨h.os, h.tape, h.output, h.size, fun k hk _ => h.block k hk⟩
theorem Chg.heap {l : List Nat} {w w' : World} (h : Chg l w w') {k : Nat} {o : Obj} (hk : w.heap[k]? = some o) (hn : k ∉ l) : w'.heap[k]? = some o :=
  (h.block k (Array.getElem?_eq_some_iff.1 hk).1 hn).trans hk
theorem Chg.cell {l : List Nat} {w w' : World} (h : Chg l w w') {p : Addr} {v : Value} (hk : w.cell? p = some v) (hn : p.block ∉ l) : w'.cell? p = some v :=
  (World.cell?_of_block (w := w) (h.block p.block (World.block_lt_of_cell? w p hk) hn)).trans hk
theorem Chg.row {l : List Nat} {w w' : World} (h : Chg l w w') {base : Nat} {e : TypeId} {size : Nat} {v : Value} {n : Nat} {xs : List Value} (ho : w.ownsRow base e size v n xs) (hn : ∀ k, v.ownBlock = some k → k ∉ l) : w'.ownsRow base e size v n xs := by
  refine ⟨ho.1, ?_⟩
  rcases ho.2 with hx | ⟨g, cap, cur, rfl, hb, hg, r⟩
  · exact Or.inl hx
  · exact Or.inr ⟨g, cap, cur, rfl, hb, h.heap hg (hn g (by simp [Value.ownBlock])), r⟩

/-! ### maps -/
/-- a value as it stands. -/
def Rv (v : Value) : Option (DataW Value × List MemPlace) := some (.held v, [])
def sk (s : ByteArray) : Lit := .string s.data.toList
theorem sk_inj {s t : ByteArray} (h : sk s = sk t) : s = t := by
  have : s.data.toList = t.data.toList := by injection h
  have := Array.ext' this
  cases s; cases t; simp_all
theorem sk_key (s : ByteArray) : WideAt.IsKeyLit (sk s) := trivial
theorem sk_of (s : ByteArray) (h : s.size ≤ 9223372036854775807) : keyOf Try.prog 9 (.string s) = some (sk s) := Go.WideMaps.keyOf_string_mk Try.underlying9 h
theorem sk_law : Maps.Keyed Try.prog 9 := Maps.string_keyed Try.underlying9

/-- block b is a map of c entries, with strings for keys, that gives what f says. -/
def FM (w : World) (b c : Nat) (f : ByteArray → Option Value) : Prop :=
  ∃ D : DataW Value, w.ownsMap Try.prog 9 Rv b c D ∧ Maps.size D = c ∧ (∀ s, Maps.has D (sk s) = (f s).isSome) ∧ ∀ s z, D.atKey (sk s) (.held z) = .held ((f s).getD z)

def upd (f : ByteArray → Option Value) (s : ByteArray) (v : Option Value) : ByteArray → Option Value := fun t => if t = s then v else f t

theorem FM.lt {w : World} {b c : Nat} {f : ByteArray → Option Value} (h : FM w b c f) : b < w.heap.size := by
  obtain ⟨D, h, _⟩ := h; exact h.lt
theorem FM.chg {l : List Nat} {w w' : World} {b c : Nat} {f : ByteArray → Option Value} (h : FM w b c f) (hc : Chg l w w') (hn : b ∉ l) : FM w' b c f := by
  obtain ⟨D, h, r⟩ := h
  have hlt := h.lt
  obtain ⟨es, clock, hb, rest⟩ := h
  exact ⟨D, ⟨es, clock, (hc.block b hlt hn).trans hb, rest⟩, r⟩
theorem FM.congr {w : World} {b c : Nat} {f g : ByteArray → Option Value} (h : FM w b c f) (e : ∀ s, f s = g s) : FM w b c g := by
  have : f = g := funext e
  rw [← this]; exact h
theorem FM.made (w : World) : FM (w.alloc (.map #[] 0)) w.heap.size 0 (fun _ => none) :=
  ⟨.map [], World.ownsMap_made w _ _ _, rfl, fun s => rfl, fun s z => rfl⟩
theorem FM.look {w : World} {b c : Nat} {f : ByteArray → Option Value} (h : FM w b c f) {t e : TypeId} (ht : Try.prog.underlying t = some (.map 9 e)) {z : Value} (hz : ∀ w, (zeroValue e).run Try.prog w = .ok z w) (s : ByteArray) (hs : s.size ≤ 9223372036854775807) :
    (Instr.lookup t (.map (some b)) (.string s) false).run Try.prog w = .ok ((f s).getD z) w := by
  obtain ⟨D, h, _, h1, h2⟩ := h
  obtain ⟨v, ps, hr, hv⟩ := h.lookup sk_law ht (hz w) (zd := .held z) (zp := []) rfl (sk_of s hs)
  rw [h2] at hv
  injection hv with hv
  injection hv with hv
  injection hv with hv
  rw [hr, hv]
theorem FM.look_ok {w : World} {b c : Nat} {f : ByteArray → Option Value} (h : FM w b c f) {t e : TypeId} (ht : Try.prog.underlying t = some (.map 9 e)) {z : Value} (hz : ∀ w, (zeroValue e).run Try.prog w = .ok z w) (s : ByteArray) (hs : s.size ≤ 9223372036854775807) :
    (Instr.lookup t (.map (some b)) (.string s) true).run Try.prog w = .ok (.tuple #[(f s).getD z, .bool (f s).isSome]) w := by
  obtain ⟨D, h, _, h1, h2⟩ := h
  obtain ⟨v, ps, hr, hv⟩ := h.look_ok sk_law ht (hz w) (zd := .held z) (zp := []) rfl (sk_of s hs)
  rw [h2] at hv
  injection hv with hv
  injection hv with hv
  injection hv with hv
  rw [hr, hv, h1]
theorem FM.set {w : World} {b c : Nat} {f : ByteArray → Option Value} (h : FM w b c f) {t e : TypeId} (ht : Try.prog.underlying t = some (.map 9 e)) (hc : c < 9223372036854775807) (s : ByteArray) (hs : s.size ≤ 9223372036854775807) (v : Value) :
    ∃ w', (Instr.mapUpdate t (.map (some b)) (.string s) v).run Try.prog w = .ok () w' ∧ FM w' b (if (f s).isSome then c else c + 1) (upd f s (some v)) ∧ Chg [b] w w' ∧ w'.heap.size = w.heap.size := by
  obtain ⟨D, h, h0, h1, h2⟩ := h
  obtain ⟨w', hr, ho, ht⟩ := h.store sk_law ht (by unfold maxLen; omega) (sk_of s hs) (d := .held v) (ps := []) rfl
  have hg := ht.grown
  have hI := h.isMap
  have hsz : Maps.size (D.put (sk s) (.held v)) = if (f s).isSome then c else c + 1 := by
    have := Maps.size_put (h.tidy sk_law) (k := sk s) (.held v)
    rw [h1, h0] at this
    rw [this]
  refine ⟨w', hr, ⟨_, ?_, hsz, fun t => ?_, fun t z => ?_⟩, ⟨hg.os, hg.tape, hg.output, hg.size, fun k hk hn => hg.block k hk (fun e => hn (by simp; injection e))⟩, ?_⟩
  · obtain ⟨es, clock, hb, F, hs, hD⟩ := ho
    refine ⟨es, clock, hb, F, ?_, hD⟩
    rw [← hsz, hD]
    simp [Maps.size, length_sorted]
  · unfold upd
    by_cases e : t = s
    · subst e; rw [if_pos rfl, Maps.has_put_same hI (sk_key t)]; rfl
    · rw [if_neg e, Maps.has_put_other (fun h => e (sk_inj h)), h1]
  · unfold upd
    by_cases e : t = s
    · subst e; rw [if_pos rfl, Maps.atKey_put_same hI (sk_key t)]; rfl
    · rw [if_neg e, Maps.atKey_put_other (fun h => e (sk_inj h)), h2]
  · obtain ⟨_, _, _, _, _, e⟩ := ht
    rw [e]; simp [Go.ChangeMaps.setBlock]
theorem FM.del {w : World} {b c : Nat} {f : ByteArray → Option Value} (h : FM w b c f) {t e : TypeId} (ht : Try.prog.underlying t = some (.map 9 e)) (s : ByteArray) (hs : s.size ≤ 9223372036854775807) :
    ∃ w', (∀ ty, (Builtin.delete_ #[t, 9] ty #[.map (some b), .string s]).run Try.prog w = .ok (.tuple #[]) w') ∧ FM w' b (if (f s).isSome then c - 1 else c) (upd f s none) ∧ Chg [b] w w' ∧ w'.heap.size = w.heap.size := by
  obtain ⟨D, h, h0, h1, h2⟩ := h
  obtain ⟨w', hr, ho, ht'⟩ := h.drop sk_law ht (sk_of s hs) 0
  have hg := ht'.grown
  have hsz : Maps.size (D.del (sk s)) = if (f s).isSome then c - 1 else c := by
    have := Maps.size_del (h.tidy sk_law) (k := sk s)
    rw [h1, h0] at this
    split <;> simp_all
    omega
  refine ⟨w', fun ty => ?_, ⟨_, ?_, hsz, fun t => ?_, fun t z => ?_⟩, ⟨hg.os, hg.tape, hg.output, hg.size, fun k hk hn => hg.block k hk (fun e => hn (by simp; injection e))⟩, ?_⟩
  · rw [← hr]; simp [Builtin.delete_]
  · obtain ⟨es, clock, hb, F, hs, hD⟩ := ho
    refine ⟨es, clock, hb, F, ?_, hD⟩
    rw [← hsz, hD]
    simp [Maps.size, length_sorted]
  · unfold upd
    by_cases e : t = s
    · subst e; rw [if_pos rfl, Maps.has_del_same]; rfl
    · rw [if_neg e, Maps.has_del_other (fun h => e (sk_inj h)), h1]
  · unfold upd
    by_cases e : t = s
    · subst e; rw [if_pos rfl, Maps.atKey_del_same]; rfl
    · rw [if_neg e, Maps.atKey_del_other (fun h => e (sk_inj h)), h2]
  · obtain ⟨_, _, _, _, _, e⟩ := ht'
    rw [e]; simp [Go.ChangeMaps.setBlock]
theorem FM.len {w : World} {b c : Nat} {f : ByteArray → Option Value} (h : FM w b c f) {t e : TypeId} (ht : Try.prog.underlying t = some (.map 9 e)) (ty : TypeId) :
    (Builtin.len_ #[t] ty #[.map (some b)]).run Try.prog w = .ok (.int .i64 c) w := by
  obtain ⟨D, h, h0, _⟩ := h
  rw [h.len ht ty, h0]

/-! ### strings and cards in memory -/
/-- the slice v holds the strings l. -/
def StrsAt (w : World) (v : Value) (l : List ByteArray) : Prop :=
  (∃ a cap, v = .slice a 0 cap ∧ l = []) ∨
  ∃ b off cap, v = .slice (some ⟨b, off, none⟩) l.length cap ∧ l.length ≤ cap ∧ cap ≤ 9223372036854775807 ∧ b < w.heap.size ∧ ∀ i, i < l.length → w.cell? ⟨b, off + i, none⟩ = some (.string (l.getD i ByteArray.empty))
def Small (l : List ByteArray) : Prop := ∀ s ∈ l, s.size ≤ 9223372036854775807
theorem StrsAt.shape {w : World} {v : Value} {l : List ByteArray} (h : StrsAt w v l) : ∃ a cap, v = .slice a l.length cap := by
  rcases h with ⟨a, cap, rfl, rfl⟩ | ⟨b, off, cap, rfl, _⟩
  · exact ⟨a, cap, rfl⟩
  · exact ⟨_, cap, rfl⟩
/-- block k does not lie under the slice v. -/
def Off (v : Value) (l : List Nat) : Prop := ∀ b off n cap, v = .slice (some ⟨b, off, none⟩) n cap → b ∉ l
theorem StrsAt.chg {ls : List Nat} {w w' : World} {v : Value} {l : List ByteArray} (h : StrsAt w v l) (hc : Chg ls w w') (hn : Off v ls) : StrsAt w' v l := by
  rcases h with h | ⟨b, off, cap, rfl, h1, h2, h3, h4⟩
  · exact .inl h
  · exact .inr ⟨b, off, cap, rfl, h1, h2, Nat.lt_of_lt_of_le h3 hc.size, fun i hi => hc.cell (h4 i hi) (hn _ _ _ _ rfl)⟩

structure Card where
  uid : ByteArray
  owners : List ByteArray
def Card.dflt : Card := ⟨ByteArray.empty, []⟩
def gc (l : List Card) (i : Nat) : Card := l.getD i Card.dflt
/-- a card in memory. -/
def CardAt (w : World) (b off : Nat) (c : Card) : Prop := ∃ v, w.cell? ⟨b, off, none⟩ = some (.string c.uid) ∧ w.cell? ⟨b, off + 1, none⟩ = some v ∧ StrsAt w v c.owners ∧ c.uid.size ≤ 9223372036854775807 ∧ Small c.owners ∧ c.owners.length ≤ 9223372036854775807
end Go.Proofs.Ytfdfljcieeccbaa
