/- slices.Sorted(slices.Values(s)) at strings: a new slice that holds what s holds, sorted. Conditions: s as long as may be reached. -/
import Derived.Test.YtfdfljcieeccbaaShelf
import Derived.Test.YtfdfljcieeccbaaMem
import Derived.Shelf.SlIter.Sorted
import Derived.WalkKit
import Derived.OwnWalkIn
import Derived.TacticsInMore
import Derived.LoopNIn
import Derived.LoopIn
namespace Go.Proofs.Ytfdfljcieeccbaa
open Go.RowKit Go.Maps Go.Sort Go.Shelf
attribute [local go_sem] Oper.semAt_some

theorem le_tr (a b c : List UInt8) (h : a ≤ b) (k : b ≤ c) : a ≤ c := List.le_trans h k
theorem le_to (a b : List UInt8) : a ≤ b ∨ b ≤ a := List.le_total a b
theorem le_as (a b : List UInt8) (h : a ≤ b) (k : b ≤ a) : a = b := List.le_antisymm h k
def sortS (l : List (List UInt8)) : List (List UInt8) := l.mergeSort fun x y => decide (x ≤ y)
theorem sortS_perm (l : List (List UInt8)) : (sortS l).Perm l := List.mergeSort_perm _ _
theorem sortS_length (l : List (List UInt8)) : (sortS l).length = l.length := (sortS_perm l).length_eq
theorem sortS_sorted (l : List (List UInt8)) : (sortS l).Pairwise (· ≤ ·) := by
  have := List.pairwise_mergeSort (le := fun x y : List UInt8 => decide (x ≤ y)) (fun a b c h k => by simp at *; exact le_tr a b c h k) (fun a b => by simp; exact le_to a b) l
  unfold sortS
  exact this.imp (fun h => by simpa using h)
theorem getI (zs : List (List UInt8)) (j : Nat) (h : j < zs.length) : zs.toArray[j]! = zs[j] := by
  simp [h]
theorem keeps_iff' (d : Array (List UInt8)) (j : Nat) : Go.Lib.keeps d j = true ↔ j = 0 ∨ d[j]! ≠ d[j - 1]! := by
  unfold Go.Lib.keeps; simp
theorem mem_compact (zs : List (List UInt8)) (x : List UInt8) : x ∈ Go.Lib.compact zs ↔ x ∈ zs := by
  unfold Go.Lib.compact Go.Lib.compactUpTo
  simp only [List.mem_map, List.mem_filter, List.mem_range]
  constructor
  · rintro ⟨j, ⟨hj, _⟩, rfl⟩
    rw [getI zs j hj]; exact List.getElem_mem hj
  · intro h
    obtain ⟨j, hj, rfl⟩ := List.getElem_of_mem h
    induction j using Nat.strongRecOn with
    | _ j ih =>
      by_cases hk : Go.Lib.keeps zs.toArray j = true
      · exact ⟨j, ⟨hj, hk⟩, getI zs j hj⟩
      · have hk' := hk
        rw [keeps_iff'] at hk
        have h0 : j ≠ 0 := fun e => hk (.inl e)
        have he : zs.toArray[j]! = zs.toArray[j - 1]! := Classical.byContradiction fun e => hk (.inr e)
        rw [getI zs j hj, getI zs (j - 1) (by omega)] at he
        obtain ⟨i, a, b⟩ := ih (j - 1) (by omega) (by omega) (List.getElem_mem _)
        exact ⟨i, a, b.trans he.symm⟩
theorem nodup_compact (zs : List (List UInt8)) (hs : zs.Pairwise (· ≤ ·)) : (Go.Lib.compact zs).Nodup := by
  unfold Go.Lib.compact Go.Lib.compactUpTo
  rw [List.Nodup, List.pairwise_map]
  have h1 : ((List.range zs.length).filter (Go.Lib.keeps zs.toArray)).Pairwise (fun i j => i < j ∧ j < zs.length ∧ Go.Lib.keeps zs.toArray j = true) := by
    have h2 : ((List.range zs.length).filter (Go.Lib.keeps zs.toArray)).Pairwise (· < ·) := List.pairwise_lt_range.filter _
    refine (List.Pairwise.and_mem.1 h2).imp fun {a b} h => ⟨h.2.2, ?_⟩
    have := List.mem_filter.1 h.2.1
    exact ⟨List.mem_range.1 this.1, this.2⟩
  refine h1.imp fun {i j} ⟨hij, hj, hk⟩ => ?_
  rw [keeps_iff', getI zs j hj, getI zs (j - 1) (by omega)] at hk
  rw [getI zs i (by omega), getI zs j hj]
  intro e
  rcases hk with hk | hk
  · omega
  · have p : ∀ a b (hb : b < zs.length) (ha : a < zs.length), a ≤ b → zs[a] ≤ zs[b] := fun a b hb ha hab => by
      rcases Nat.lt_or_ge a b with h | h
      · exact List.pairwise_iff_getElem.1 hs a b ha hb h
      · have : a = b := by omega
        subst this
        exact List.le_refl _
    have h1 := p i (j - 1) (by omega) (by omega) (by omega)
    have h2 := p (j - 1) j (by omega) (by omega) (by omega)
    rw [e] at h1
    exact hk (le_as _ _ h1 h2)
/-- the first k strings of a list. -/
def first (f : Nat → List UInt8) (k : Nat) : List (List UInt8) := (List.range k).map f
theorem first_succ (f : Nat → List UInt8) (k : Nat) : first f (k + 1) = first f k ++ [f k] := by simp [first, List.range_succ]
theorem first_length (f : Nat → List UInt8) (k : Nat) : (first f k).length = k := by simp [first]

set_option maxRecDepth 100000 in
set_option maxHeartbeats 2000000 in
/-- what slices.Values gave, ranged over with a body that keeps what lay below m. -/
theorem vals_in (n : Nat) (hn : 1 ≤ n) (l Bs m b off len cap : Nat) (f : Nat → List UInt8) (hreach : len ≤ 140737488351232) (hb : b < m) (J : List (List UInt8) → World → Prop) (W0 : World) (hJW : ∀ pre W, J pre W → Below m W0 W)
    (hY : ∀ pre x W, J pre W → pre.length < len → YieldAt Fence.wide (n - 1) Try.prog l #[encStr x] W fun e W' => e = .returned (.bool true) ∧ J (pre ++ [x]) W')
    (W : World) (hBs : W.cell? ⟨Bs, 0, none⟩ = some (.slice (some ⟨b, off, none⟩) len cap)) (hc : ∀ j, j < len → W0.cell? ⟨b, off + j, none⟩ = some (encStr (f j))) (h0 : J [] W) :
    CallsIn Fence.wide n Try.prog 23 #[.func (.yield l) #[] #[], .pointer (some ⟨Bs, 0, none⟩)] W fun e W' => (∃ v, e = .returned v) ∧ J (first f len) W' := by
  refine callsIn_of_wp Try.func23 rfl trivial ?_ rfl
  simp only [Try.ntmps23, List.size_toArray, List.length_cons, List.length_nil, Nat.reduceAdd, Nat.reduceSub, Array.replicate_succ, Array.replicate_zero, List.push_toArray, List.append_toArray, List.nil_append, List.cons_append]
  gi_wp2
  gi_loopw [7] (fun i wr => ∃ k : Nat, k ≤ len ∧ i = .int .i64 k ∧ J (first f k) wr)
    (fun i _ => len - (intOf i).toNat)
  case atStart => exact ⟨0, Nat.zero_le _, rfl, h0⟩
  case round =>
    obtain ⟨k, hk, rfl, hJs⟩ := hrel
    have hcx : k < len → wr.cell? ⟨b, off + k, none⟩ = some (encStr (f k)) := fun h => ((hJW _ _ hJs).cell (p := ⟨b, off + k, none⟩) hb).trans (hc k h)
    by_cases hlt : k < len
    · obtain ⟨fn, tmps, assign, body, hy, hR⟩ := hY _ (f k) wr hJs (by rw [first_length]; exact hlt)
      have hcx' := hcx hlt
      gi_wp2
      refine hR.mono ?_
      rintro e W3 ⟨rfl, hJ3⟩
      gi_wp2
      go_roundw
      case rel => exact ⟨k + 1, by omega, by simp, by rw [first_succ]; exact hJ3⟩
      case measure => simp [intOf]; omega
    · obtain rfl : k = len := by omega
      gi_wp2
      go_end0
      exact ⟨⟨_, rfl⟩, hJs⟩

set_option maxRecDepth 100000 in
set_option maxHeartbeats 1000000 in
/-- .. at an empty slice: no round. -/
theorem vals0_in (n : Nat) (l Bs : Nat) (a : Option Addr) (cap : Nat) (W : World) (hBs : W.cell? ⟨Bs, 0, none⟩ = some (.slice a 0 cap)) (J : World → Prop) (h0 : J W) :
    CallsIn Fence.wide n Try.prog 23 #[.func (.yield l) #[] #[], .pointer (some ⟨Bs, 0, none⟩)] W fun e W' => (∃ v, e = .returned v) ∧ J W' := by
  refine callsIn_of_wp Try.func23 rfl trivial ?_ rfl
  simp only [Try.ntmps23, List.size_toArray, List.length_cons, List.length_nil, Nat.reduceAdd, Nat.reduceSub, Array.replicate_succ, Array.replicate_zero, List.push_toArray, List.append_toArray, List.nil_append, List.cons_append]
  gi_wp2
  gi_loopw [7] (fun i wr => i = .int .i64 0 ∧ J wr) (fun _ _ => 0)
  case atStart => exact ⟨rfl, h0⟩
  case round =>
    obtain ⟨rfl, hJs⟩ := hrel
    gi_wp2
    go_end0
    exact ⟨⟨_, rfl⟩, hJs⟩

/-- the strings of a slice, as bytes. -/
def bytesOf (l : List ByteArray) : List (List UInt8) := l.map fun s => s.data.toList
theorem first_bytes (l : List ByteArray) : first (fun j => (l.getD j ByteArray.empty).data.toList) l.length = bytesOf l := by
  apply List.ext_getElem
  · simp [first, bytesOf]
  · intro i h1 h2
    have hi : i < l.length := by simpa [first] using h1
    simp [first, bytesOf, List.getD, hi]
theorem encStr_toList (s : ByteArray) : encStr s.data.toList = .string s := by
  unfold encStr
  congr 1

set_option maxRecDepth 100000 in
set_option maxHeartbeats 2000000 in
/-- the iterator's value of a slice, over a box Bs made ahead. -/
theorem valsOf_in (n : Nat) (hn : 1 ≤ n) (l Bs m : Nat) (sv : Value) (ls : List ByteArray) (hreach : ls.length ≤ 140737488351232) (J : List (List UInt8) → World → Prop) (W0 : World) (hm : m = W0.heap.size) (hJW : ∀ pre W, J pre W → Below m W0 W)
    (hY : ∀ pre x W, J pre W → pre.length < ls.length → YieldAt Fence.wide (n - 1) Try.prog l #[encStr x] W fun e W' => e = .returned (.bool true) ∧ J (pre ++ [x]) W')
    (W : World) (hBs : W.cell? ⟨Bs, 0, none⟩ = some sv) (hc : StrsAt W0 sv ls) (h0 : J [] W) :
    CallsIn Fence.wide n Try.prog 23 #[.func (.yield l) #[] #[], .pointer (some ⟨Bs, 0, none⟩)] W fun e W' => (∃ v, e = .returned v) ∧ J (bytesOf ls) W' := by
  rcases hc with ⟨a, cap, rfl, rfl⟩ | ⟨b, off, cap, rfl, h1, h2, h3, h4⟩
  · exact vals0_in n l Bs a cap W hBs (J []) h0
  · rw [← first_bytes]
    exact vals_in n hn l Bs m b off ls.length cap _ hreach (by omega) J W0 hJW hY W hBs (fun j hj => by rw [encStr_toList]; exact h4 j hj) h0

abbrev ApJ := AnyZ.ApAt Try.sorted16_ren
set_option maxRecDepth 100000 in
set_option maxHeartbeats 2000000 in
/-- slices.AppendSeq(nil, slices.Values(s)): the strings of s, in a row of its own. w: the world behind the call of slices.Values; W0: the one ahead of it. -/
theorem appendVals_in (n : Nat) (hn : 2 ≤ n) (Bs : Nat) (sv : Value) (ls : List ByteArray) (hlen : ls.length ≤ 1000) (W0 w : World) (hW : Below W0.heap.size W0 w) (hc : StrsAt W0 sv ls) (hBs : w.cell? ⟨Bs, 0, none⟩ = some sv) (hBl : Bs < w.heap.size) :
    CallsIn Fence.wide n Try.prog 30 #[.slice none 0 0, .func (.func 23) #[] #[.pointer (some ⟨Bs, 0, none⟩)]] w fun e w' => ∃ v : Value, e = .returned v ∧ w'.ownsRow w.heap.size 9 1 v ls.length ((bytesOf ls).map encStr) ∧ Below w.heap.size w w' := by
  have h1 : 1 ≤ n := by omega
  have eg : ∀ args w, (callFunc 23 args).run Try.prog w = .ok (.enter 23 args) w := enters_of Try.func23 (by kernel_rfl) rfl
  refine callsIn_of_wp_marks Try.func30 rfl trivial ?_ rfl
  simp only [Try.ntmps30, List.size_toArray, List.length_cons, List.length_nil, Nat.reduceAdd, Nat.reduceSub, Array.replicate_succ, Array.replicate_zero, List.push_toArray, List.append_toArray, List.nil_append, List.cons_append]
  gi_wp2
  refine wpIn_rangeFunc ?_
  intro fn hfn
  obtain ⟨w1, hw1⟩ : ∃ w1, w.alloc (.cells #[.slice none 0 0] 23) = w1 := ⟨_, rfl⟩
  have hs0 : w1.heap.size = w.heap.size + 1 := by rw [← hw1]; simp
  have hv0 : w1.heap[w.heap.size]? = some (.cells #[.slice none 0 0] 23 (0, 0)) := by rw [← hw1]; exact World.alloc_heap_new w _
  have hb0 : Below w.heap.size w w1 := by rw [← hw1]; exact (Below.refl _ w).alloc (Nat.le_refl _) _
  rw [hw1]
  obtain ⟨rec, hrec⟩ : ∃ rec, AnyZ.apRec Try.sorted16_ren fn (.func (.func 23) #[] #[.pointer (some ⟨Bs, 0, none⟩)]) w.heap.size w1.heap.size .ready none = rec := ⟨_, rfl⟩
  obtain ⟨w2, hw2⟩ : ∃ w2, (w1.alloc (.deferred (some []))).alloc (.loop rec) = w2 := ⟨_, rfl⟩
  have hold : ∀ k, k < w1.heap.size → w2.heap[k]? = w1.heap[k]? := fun k hk => by
    rw [← hw2]; exact (Below.heap_alloc _ _ k (by simp; omega)).trans (Below.heap_alloc _ _ k hk)
  have hb1 : Below w.heap.size w w2 := by rw [← hw2]; exact (hb0.alloc hb0.size _).alloc (by have := hb0.size; simp; omega) _
  have hs1 : w2.heap.size = w1.heap.size + 2 := by rw [← hw2]; simp
  have hM : ApJ w fn (.func (.func 23) #[] #[.pointer (some ⟨Bs, 0, none⟩)]) w.heap.size (w1.heap.size + 1) w1.heap.size [] w2 :=
    ⟨⟨_, (hold w.heap.size (by omega)).trans hv0, ⟨rfl, .inl ⟨rfl, rfl⟩⟩, by simp⟩,
     by rw [← hw2, hrec]; have := World.alloc_heap_new (w1.alloc (.deferred (some []))) (.loop rec); rwa [World.size_alloc] at this,
     by rw [← hw2]; exact (Below.heap_alloc _ _ _ (by simp)).trans (World.alloc_heap_new w1 _), hb1⟩
  refine ⟨w1.heap.size + 1, [{ target := .collected w1.heap.size, args := #[] }], w2, { target := .fn (.func 23) #[.pointer (some ⟨Bs, 0, none⟩)], args := #[.func (.yield (w1.heap.size + 1)) #[] #[]] }, w2, 23,
    #[.func (.yield (w1.heap.size + 1)) #[] #[], .pointer (some ⟨Bs, 0, none⟩)], w2, ?_, ?_, ?_, ?_, fun _ => h1, ?_⟩
  · rw [← hw2, ← hrec]; exact run_enterLoop_outer _ _ _ _ _
  · simp [resolve, go_sem]
  · intro f' _; trivial
  · simp [invoke, go_sem, eg]
  · refine (valsOf_in (n - 1) (by omega) (w1.heap.size + 1) Bs W0.heap.size sv ls (by omega) (ApJ w fn (.func (.func 23) #[] #[.pointer (some ⟨Bs, 0, none⟩)]) w.heap.size (w1.heap.size + 1) w1.heap.size) W0 rfl
      (fun pre W hJ => hW.trans (hJ.below.mono hW.size))
      (fun pre x W hJ hl => by
        obtain ⟨a, b, c, d, h1, h2⟩ := AnyZ.apYield { Try.sorted16 with } Fence.wide (n - 1 - 1) w fn hfn _ w.heap.size (w1.heap.size + 1) w1.heap.size (by omega) (by omega) (by omega) (Nat.le_refl _) (by omega) 1000 (by decide) (by decide) pre x W hJ (by omega)
        exact ⟨a, b, c, d, h1, h2.mono fun e W' h => ⟨h.1, h.2.1⟩⟩)
      w2 ((hb1.cell (p := ⟨Bs, 0, none⟩) hBl).trans hBs) hc hM).mono ?_
    rintro e W2 ⟨⟨v0, rfl⟩, h2⟩
    obtain ⟨v, hv, hrow, hnil⟩ := h2.box
    have hend := run_endLoop (P := Try.prog) h2.L (by simp [AnyZ.apRec])
    obtain ⟨W3, hW3⟩ : ∃ W3, W2.putObj (w1.heap.size + 1) (.loop { AnyZ.apRec Try.sorted16_ren fn (.func (.func 23) #[] #[.pointer (some ⟨Bs, 0, none⟩)]) w.heap.size w1.heap.size .ready none with state := .exhausted }) = W3 := ⟨_, rfl⟩
    rw [hW3] at hend
    have hg3 : W2.grownBy W3 (some (w1.heap.size + 1)) := by rw [← hW3]; exact grownBy_putObj_a _ _ _
    have hv3 : W3.heap[w.heap.size]? = some (.cells #[v] 23 (0, 0)) := by rw [← hW3]; exact (World.putObj_heap_other (by omega)).trans hv
    have hK3 : W3.heap[w1.heap.size]? = some (.deferred (some [])) := by rw [← hW3]; exact (World.putObj_heap_other (by omega)).trans h2.K
    have hrow3 := hrow.kept hg3 (ownsRow_ne_a hrow h2.L (fun cur e => by cases e))
    have hb3 : Below w.heap.size w W3 := h2.below.grown hg3 h2.below.size (fun k e => by cases e; omega)
    obtain ⟨hc3, hf3⟩ := cell_of_box_a hv3
    clear hW3
    refine ⟨none, W3, hend, ?_⟩
    gi_wp2
    rw [← hs0]
    refine ⟨by simp, .inl ⟨_, _, rfl, run_takeDeferred hK3, ?_⟩⟩
    refine ⟨_, results_tmp rfl _ _ _, v, rfl, ?_, hb3.grown (grownBy_putObj_a _ _ _) hb3.size (fun k e => by cases e; omega)⟩
    have := hrow3.kept (grownBy_putObj_a W3 w1.heap.size (.deferred none)) (ownsRow_ne_a hrow3 hK3 (fun cur e => by cases e))
    have e : (bytesOf ls).length = ls.length := by simp [bytesOf]
    rw [e] at this
    exact this

/-! ### the whole: slices.Compact(slices.Sorted(slices.Values(s))) -/
theorem values_any (a : Option Addr) (len cap : Nat) (w : World) :
    Calls Try.prog 17 #[.slice a len cap] w fun e w' => e = .returned (.func (.func 23) #[] #[.pointer (some ⟨w.heap.size, 0, none⟩)]) ∧ w' = w.alloc (.cells #[.slice a len cap] 23) := by
  go_enter Try.func17, Try.ntmps17
  go_wp2_with fail
  go_ret
  exact ⟨rfl, rfl⟩
def SortedRow (base : Nat) (w : World) (v : Value) (ls : List ByteArray) : Prop := w.ownsRow base 9 1 v ls.length ((sortS (bytesOf ls)).map encStr)
theorem bytesOf_length (l : List ByteArray) : (bytesOf l).length = l.length := by simp [bytesOf]
theorem sorted_any (sv : Value) (ls : List ByteArray) (hlen : ls.length ≤ 1000) (w : World) (hc : StrsAt w sv ls) :
    Calls Try.prog 16 #[.func (.func 23) #[] #[.pointer (some ⟨w.heap.size, 0, none⟩)]] (w.alloc (.cells #[sv] 23)) fun e w' => ∃ v : Value, e = .returned v ∧ SortedRow w.heap.size w' v ls ∧ Below w.heap.size w w' := by
  have hb := (Below.refl w.heap.size w).alloc (Nat.le_refl _) (.cells #[sv] 23)
  have hcol : Calls Try.prog 22 #[.func (.func 23) #[] #[.pointer (some ⟨w.heap.size, 0, none⟩)]] (w.alloc (.cells #[sv] 23)) fun e w' => ∃ v : Value, e = .returned v ∧ w'.ownsRow (w.heap.size + 1) 9 1 v ls.length ((bytesOf ls).map encStr) ∧ Below w.heap.size w w' := by
    have hap := Lib.hid (callsIn_wide.1 (appendVals_in 5 (by omega) w.heap.size sv ls hlen w (w.alloc (.cells #[sv] 23)) hb hc (by simp) (by simp)))
    have HB := Lib.hid hb
    clear hb hc
    go_enter Try.func22, Try.ntmps22
    go_wp2_with fail
    refine hap.out.mono ?_
    rintro e w' ⟨v, rfl, hrow, hbel⟩
    have HR := Lib.hid hrow
    have HL := Lib.hid hbel
    clear hrow hbel
    go_wp2_with fail
    go_ret
    exact ⟨v, rfl, by simpa using HR.out, HB.out.trans (HL.out.mono (by simp))⟩
  have HC := Lib.hid hcol
  clear hcol hb hc
  go_enter Try.func16, Try.ntmps16
  go_wp2_with fail
  refine HC.out.mono ?_
  rintro e w' ⟨v, rfl, hrow, hbel⟩
  have hrow' := hrow
  have hl : (bytesOf ls).length = ls.length := bytesOf_length ls
  rcases hrow'.2 with ⟨rfl, hz⟩ | ⟨gb, cap, cur, rfl, hbase, hgb, r1, r2, r3, r4⟩
  · have hls : ls = [] := List.eq_nil_of_length_eq_zero hz
    subst hls
    have cS := Lib.hid (Try.slices_Sort_string_none none 0 w')
    have HR := Lib.hid hrow
    have HL := Lib.hid hbel
    clear hrow hbel hrow' hl hz
    go_wp2_with fail
    refine cS.out.mono ?_
    rintro e w1 ⟨rfl, rfl⟩
    go_wp2_with fail
    go_ret
    refine ⟨_, rfl, ⟨by simp [sortS_length, bytesOf], .inl ⟨rfl, rfl⟩⟩, HL.out⟩
  · have hH : Holds encStr w' gb 0 (bytesOf ls).toArray := holds_of_block hgb (by rw [hl]; simpa using r4)
    have hgl : gb < w'.heap.size := (Array.getElem?_eq_some_iff.1 hgb).1
    have cS := Lib.hid (by have := Try.slices_Sort_string gb 0 cap (bytesOf ls) w' hH hgl (by omega); rw [hl] at this; exact this)
    have HL := Lib.hid hbel
    have HG := Lib.hid hgb
    have HX := Lib.hid (And.intro hbase (And.intro r1 (And.intro r2 r3)))
    clear hrow hbel hrow' hH hgl hgb r4 hbase r1 r2 r3
    go_wp2_with fail
    refine cS.out.mono ?_
    rintro e w1 ⟨rfl, nn, os, rfl⟩
    go_wp2_with fail
    go_ret
    obtain ⟨x1, x2, x3, x4⟩ := HX.out
    refine ⟨_, rfl, ?_, HL.out.grown (grownBy_sorted _) HL.out.size (fun j hj => by cases hj; omega)⟩
    have := ownsRow_sorted (n := nn) (os := os) (ss := bytesOf ls) (ts := sortS (bytesOf ls)) (by rw [sortS_length]) (by omega : w.heap.size ≤ gb) HG.out (by rw [hl]; exact x2) x3 x4
    rw [hl] at this
    exact this

def ba (l : List UInt8) : ByteArray := ⟨l.toArray⟩
theorem ba_data (s : ByteArray) : ba s.data.toList = s := rfl
theorem data_ba (l : List UInt8) : (ba l).data.toList = l := rfl
theorem encStr_ba (l : List UInt8) : encStr l = .string (ba l) := rfl
/-- who is among ls, once each. -/
def distinct (ls : List ByteArray) : List ByteArray := (Go.Lib.compact (sortS (bytesOf ls))).map ba
theorem distinct_nodup (ls : List ByteArray) : (distinct ls).Nodup := by
  unfold distinct
  rw [List.Nodup, List.pairwise_map]
  refine (nodup_compact _ (sortS_sorted _)).imp fun h e => h ?_
  have := congrArg (fun s : ByteArray => s.data.toList) e
  simpa [data_ba] using this
theorem mem_distinct (ls : List ByteArray) (s : ByteArray) : s ∈ distinct ls ↔ s ∈ ls := by
  unfold distinct
  rw [List.mem_map]
  constructor
  · rintro ⟨b, hb, rfl⟩
    rw [mem_compact, (sortS_perm _).mem_iff] at hb
    obtain ⟨s, hs, rfl⟩ := List.mem_map.1 hb
    exact hs
  · intro h
    exact ⟨s.data.toList, by rw [mem_compact, (sortS_perm _).mem_iff]; exact List.mem_map.2 ⟨s, h, rfl⟩, rfl⟩
theorem distinct_length (ls : List ByteArray) : (distinct ls).length ≤ ls.length := by
  unfold distinct
  rw [List.length_map]
  have := Go.Lib.compact_length_le (sortS (bytesOf ls))
  rw [sortS_length, bytesOf_length] at this
  exact this
theorem strs_of_row {w : World} {base g n cap : Nat} {zs : List (List UInt8)} (h : w.ownsRow base 9 1 (.slice (some ⟨g, 0, none⟩) n cap) n (zs.map encStr)) (l : List ByteArray) (hl : l.length ≤ n) (he : ∀ i, i < l.length → zs[i]? = some (l.getD i ByteArray.empty).data.toList) :
    StrsAt w (.slice (some ⟨g, 0, none⟩) l.length cap) l := by
  rcases h.2 with ⟨h1, _⟩ | ⟨g', cap', cur, h1, hb, hg, r1, r2, r3, r4⟩
  · cases h1
  · injection h1 with h1 h2 h3
    injection h1 with h1
    injection h1 with h1 h4 h5
    subst h1 h3
    refine .inr ⟨g, 0, cap, rfl, by omega, by unfold maxLen at r2; omega, (Array.getElem?_eq_some_iff.1 hg).1, fun i hi => ?_⟩
    have h2 : (cur.toList.take (n * 1))[i]? = some (encStr (l.getD i ByteArray.empty).data.toList) := by
      rw [r4, List.getElem?_map, he i hi]; rfl
    rw [List.getElem?_take, if_pos (by omega)] at h2
    unfold World.cell?
    simp [hg]
    simpa [encStr_toList] using h2
theorem compact_any (base : Nat) (v : Value) (ls : List ByteArray) (hlen : ls.length ≤ 1000) (w : World) (hw : base ≤ w.heap.size) (h : SortedRow base w v ls) :
    Calls Try.prog 15 #[v] w fun e w' => ∃ v', e = .returned v' ∧ StrsAt w' v' (distinct ls) ∧ Below base w w' := by
  have h' := h
  rcases h'.2 with ⟨rfl, hz⟩ | ⟨g, cap, cur, rfl, hbase, hg, r1, r2, r3, r4⟩
  · have hls : ls = [] := List.eq_nil_of_length_eq_zero hz
    subst hls
    refine (Try.slices_Compact_string_empty none 0 w).mono ?_
    rintro e w' ⟨rfl, rfl⟩
    exact ⟨_, rfl, .inl ⟨none, 0, rfl, List.eq_nil_of_length_eq_zero (by have := distinct_length []; simpa using this)⟩, Below.refl _ _⟩
  · have hl : (sortS (bytesOf ls)).length = ls.length := by rw [sortS_length, bytesOf_length]
    have hH : Holds encStr w g 0 (sortS (bytesOf ls)).toArray := holds_of_block hg (by rw [hl]; simpa using r4)
    have hc := Try.slices_Compact_string g 0 cap (sortS (bytesOf ls)) w hH (by omega) (by omega)
    rw [hl] at hc
    refine hc.mono ?_
    rintro e w' ⟨rfl, q, rfl⟩
    have hcl : (Go.Lib.compact (sortS (bytesOf ls))).length ≤ ls.length := by
      have := Go.Lib.compact_length_le (sortS (bytesOf ls)); omega
    have hrow := ownsRow_sorted (n := q) (os := #[]) (ss := bytesOf ls) (ts := Go.Lib.compact (sortS (bytesOf ls)) ++ List.replicate (ls.length - (Go.Lib.compact (sortS (bytesOf ls))).length) []) (by rw [bytesOf_length, List.length_append, List.length_replicate]; omega) hbase hg (by rw [bytesOf_length]; exact r1) r2 r3
    rw [bytesOf_length] at hrow
    have hd : (distinct ls).length = (Go.Lib.compact (sortS (bytesOf ls))).length := by unfold distinct; simp
    have hst := strs_of_row hrow (distinct ls) (by omega) (fun i hi => by
      rw [List.getElem?_append_left (by omega)]
      unfold distinct
      have h2 : i < (Go.Lib.compact (sortS (bytesOf ls))).length := by omega
      simp [List.getD, h2, data_ba])
    rw [hd] at hst
    rw [grow_empty] at hst
    exact ⟨_, rfl, hst, by
      have := (Below.refl base w).grown (grownBy_sorted (n := q) (os := #[]) (g := g) (w := w) (Go.Lib.compact (sortS (bytesOf ls)) ++ List.replicate (ls.length - (Go.Lib.compact (sortS (bytesOf ls))).length) []).toArray) hw (fun j hj => by cases hj; exact hbase)
      rwa [grow_empty] at this⟩
end Go.Proofs.Ytfdfljcieeccbaa
