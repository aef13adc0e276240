/- THE WALK of refs.of: who is there, and whom each one owns. Conditions: no uid twice, at most 60 cards of at most 4 owners. -/
import Derived.Test.YtfdfljcieeccbaaSl
import Derived.BigRegion
namespace Go.Proofs.Ytfdfljcieeccbaa
open Go.RowKit
attribute [local go_sem] run_makeMap
attribute [local go_sem ↓ high] appWr_eq

theorem Chg.frz {l : List Nat} {w w' : World} (h : Chg l w w') {p : Addr} (hf : w.frozen? p = false) (hp : p.block < w.heap.size) (hn : p.block ∉ l) : w'.frozen? p = false := by
  have := h.block p.block hp hn
  unfold World.frozen? at *
  rw [this]; exact hf
def nilS : Value := .slice none 0 0
structure Owns (w : World) (base m c : Nat) (f : ByteArray → Option Value) (own : ByteArray → List ByteArray) : Prop where
  map : FM w m c f
  rows : ∀ s, SlAt w ((f s).getD nilS) (own s)
  above : ∀ s k, ((f s).getD nilS).ownBlock = some k → base ≤ k
  apart : ∀ s t k, s ≠ t → ((f s).getD nilS).ownBlock = some k → ((f t).getD nilS).ownBlock ≠ some k
theorem Owns.start (w : World) (base : Nat) : Owns (w.alloc (.map #[] 0)) base w.heap.size 0 (fun _ => none) (fun _ => []) :=
  ⟨FM.made w, fun s => SlAt.nil _, fun s k h => by simp [nilS, Value.ownBlock] at h, fun s t k _ h => by simp [nilS, Value.ownBlock] at h⟩
theorem FM.isMap {w : World} {b c : Nat} {f : ByteArray → Option Value} (h : FM w b c f) : ∃ es clock, w.heap[b]? = some (.map es clock) := by
  obtain ⟨D, ⟨es, clock, hb, _⟩, _⟩ := h; exact ⟨es, clock, hb⟩
theorem SlAt.cells {w : World} {v : Value} {l : List ByteArray} (h : SlAt w v l) {k : Nat} (hk : v.ownBlock = some k) : ∃ cur, w.heap[k]? = some (.cells cur 9 (0, 0)) := by
  rcases h with ⟨rfl, _⟩ | ⟨g, off, cap, cur, rfl, hg, _⟩
  · simp [Value.ownBlock] at hk
  · simp [Value.ownBlock] at hk; subst hk; exact ⟨cur, hg⟩
theorem Owns.chg {ls : List Nat} {w w' : World} {base m c : Nat} {f : ByteArray → Option Value} {own : ByteArray → List ByteArray} (h : Owns w base m c f own) (hc : Chg ls w w') (hm : m ∉ ls) (hr : ∀ k ∈ ls, ∀ cur, w.heap[k]? ≠ some (.cells cur 9 (0, 0))) : Owns w' base m c f own :=
  ⟨h.map.chg hc hm, fun s => (h.rows s).chg hc (fun k hk hm => by obtain ⟨cur, e⟩ := (h.rows s).cells hk; exact hr k hm cur e), h.above, h.apart⟩
/-- append to whom o owns, and store it. -/
theorem Owns.step {w : World} {base m c : Nat} {f : ByteArray → Option Value} {own : ByteArray → List ByteArray} (h : Owns w base m c f own) (o x : ByteArray) (ho : o.size ≤ 9223372036854775807) (a : Addr) (hx : w.cell? a = some (.string x))
    (hlen : (own o).length ≤ 1000) (hc : c < 1000000) (hb : base ≤ w.heap.size) :
    ∃ a' c' w3 w4, (appWr #[23, 23] 23 #[(f o).getD nilS, .slice (some a) 1 1]).run Try.prog w = .ok (.slice a' ((own o).length + 1) c') w3 ∧ (Instr.mapUpdate 39 (.map (some m)) (.string o) (.slice a' ((own o).length + 1) c')).run Try.prog w3 = .ok () w4 ∧
      (∃ d g, Owns w4 base m d g (fun s => if s = o then own o ++ [x] else own s) ∧ d ≤ c + 1) ∧ ∃ L, Chg L w w4 ∧ Chg L w w3 ∧ ∀ k ∈ L, k = m ∨ (base ≤ k ∧ ∃ cur, w.heap[k]? = some (.cells cur 9 (0, 0))) := by
  obtain ⟨v', w3, h1, h2, h3, h4⟩ := run_sl w 23 ((f o).getD nilS) (own o) (h.rows o) hlen x a hx
  obtain ⟨es, clock, hmap⟩ := h.map.isMap
  have hnm : ∀ k, ((f o).getD nilS).ownBlock = some k → k ≠ m := fun k hk e => by
    obtain ⟨cur, hg⟩ := (h.rows o).cells hk
    rw [e, hmap] at hg; cases hg
  obtain ⟨L1, hL1, hL1'⟩ : ∃ L1 : List Nat, Chg L1 w w3 ∧ ∀ k, k ∈ L1 ↔ ((f o).getD nilS).ownBlock = some k := by
    cases hbk : ((f o).getD nilS).ownBlock with
    | none => exact ⟨[], (Chg.refl _ w).grown h3 (fun k e => by rw [hbk] at e; cases e), fun k => by simp⟩
    | some g => exact ⟨[g], (Chg.refl _ w).grown h3 (fun k e => by rw [hbk] at e; cases e; simp), fun k => by simp; exact eq_comm⟩
  have hf3 := h.map.chg hL1 (fun hm => hnm m ((hL1' m).1 hm) rfl)
  obtain ⟨w4, h5, h6, h7, h8⟩ := hf3.set Try.underlying39 (by omega) o ho v'
  obtain ⟨a', c', rfl⟩ := h2.shape
  rw [List.length_append, List.length_singleton] at h1 h2 h4 h5 h6
  have h2' : SlAt w4 (.slice a' ((own o).length + 1) c') (own o ++ [x]) := by
    refine h2.chg h7 (fun k hk hm => ?_)
    simp at hm
    obtain ⟨cur, hg⟩ := h2.cells hk
    obtain ⟨_, _, hmm⟩ := hf3.isMap
    rw [hm, hmm] at hg; cases hg
  have hup : ∀ s, s ≠ o → (upd f o (some (.slice a' ((own o).length + 1) c'))) s = f s := fun s e => by unfold upd; rw [if_neg e]
  have hup' : (upd f o (some (.slice a' ((own o).length + 1) c'))) o = some (.slice a' ((own o).length + 1) c') := by unfold upd; rw [if_pos rfl]
  refine ⟨a', c', w3, w4, h1, h5, ⟨_, _, ⟨h6, fun s => ?_, fun s k hk => ?_, fun s t k hst hk => ?_⟩, by split <;> omega⟩, L1 ++ [m], ?_, hL1.mono (fun x hx => .inl (by simp [hx])), fun k hk => ?_⟩
  · by_cases e : s = o
    · subst e; rw [hup', if_pos rfl]; exact h2'
    · rw [hup s e, if_neg e]
      refine ((h.rows s).chg hL1 (fun k hk hm => ?_)).chg h7 (fun k hk hm => ?_)
      · exact h.apart s o k e hk ((hL1' k).1 hm)
      · simp at hm
        obtain ⟨cur, hg⟩ := (h.rows s).cells hk
        rw [hm, hmap] at hg; cases hg
  · by_cases e : s = o
    · subst e; rw [hup'] at hk
      rcases h4 with h4 | h4 | ⟨g, h4, h9⟩
      · exact h.above s k (h4 ▸ hk)
      · simp only [Option.getD_some] at hk; rw [h4] at hk; cases hk
      · simp only [Option.getD_some] at hk; rw [h4] at hk; cases hk; omega
    · rw [hup s e] at hk; exact h.above s k hk
  · have key : ∀ s k, s ≠ o → ((f s).getD nilS).ownBlock = some k → (Value.slice a' ((own o).length + 1) c').ownBlock ≠ some k := by
      intro s k e hk hk2
      rcases h4 with h4 | h4 | ⟨g, h4, h9⟩
      · rw [h4] at hk2; exact h.apart s o k e hk hk2
      · rw [h4] at hk2; cases hk2
      · rw [h4] at hk2; cases hk2
        have := (h.rows s).lt k hk; omega
    by_cases e : s = o
    · subst e
      rw [hup', Option.getD_some] at hk
      rw [hup t (fun e => hst e.symm)]
      exact fun hk2 => key t k (fun e => hst e.symm) hk2 hk
    · rw [hup s e] at hk
      by_cases e2 : t = o
      · subst e2; rw [hup', Option.getD_some]; exact key s k e hk
      · rw [hup t e2]; exact h.apart s t k hst hk
  · exact (hL1.mono (fun x hx => .inl (by simp [hx]))).trans (h7.mono (fun x hx => .inl (by simp at hx; simp [hx])))
  · rcases List.mem_append.1 hk with hk | hk
    · exact .inr ⟨h.above o k ((hL1' k).1 hk), (h.rows o).cells ((hL1' k).1 hk)⟩
    · simp at hk; exact .inl hk
/-- whom s owns. -/
noncomputable def ownedBy (l : List Card) (s : ByteArray) : List ByteArray := (l.filter fun c => inB s c.owners).map Card.uid
theorem ownedBy_length (l : List Card) (s : ByteArray) : (ownedBy l s).length ≤ l.length := by
  unfold ownedBy; rw [List.length_map]; exact List.length_filter_le _ _
theorem mem_ownedBy (l : List Card) (s u : ByteArray) : u ∈ ownedBy l s ↔ ∃ c ∈ l, s ∈ c.owners ∧ c.uid = u := by
  unfold ownedBy
  simp only [List.mem_map, List.mem_filter, inB_iff, and_assoc]
noncomputable def ownIJ (l : List Card) (i j : Nat) (s : ByteArray) : List ByteArray := ownedBy (l.take i) s ++ (if inB s ((gc l i).owners.take j) = true then [(gc l i).uid] else [])
theorem ownIJ_zero (l : List Card) (i : Nat) (s : ByteArray) : ownIJ l i 0 s = ownedBy (l.take i) s := by
  unfold ownIJ; rw [if_neg (by simp [inB_iff])]; simp
theorem take_succ_gc (l : List Card) (i : Nat) (h : i < l.length) : l.take (i + 1) = l.take i ++ [gc l i] := by
  rw [List.take_add_one]; simp [gc, List.getD, h]
theorem ownIJ_end (l : List Card) (i j : Nat) (h : i < l.length) (hj : (gc l i).owners.length ≤ j) (s : ByteArray) : ownIJ l i j s = ownedBy (l.take (i + 1)) s := by
  unfold ownIJ ownedBy
  rw [take_succ_gc l i h, List.filter_append, List.map_append, List.take_of_length_le hj]
  congr 1
  cases hb : inB s (gc l i).owners <;> simp [hb]
theorem uids_take (l : List Card) (i : Nat) : uids (l.take i) = (uids l).take i := by simp [uids, List.map_take]
theorem gc_mem (l : List Card) (i : Nat) (h : i < l.length) : gc l i ∈ l := by simp only [gc, List.getD, List.getElem?_eq_getElem h, Option.getD_some]; exact List.getElem_mem h
theorem not_before (l : List Card) (hnd : (uids l).Nodup) (i : Nat) (h : i < l.length) : (gc l i).uid ∉ (uids l).take i := by
  have hl : i < (uids l).length := by simpa [uids] using h
  have e : (uids l)[i] = (gc l i).uid := by simp [uids, gc, List.getD, h]
  intro hm
  obtain ⟨j, hj, hje⟩ := List.getElem_of_mem hm
  have hj' : j < i := by simp at hj; omega
  rw [List.getElem_take, ← e] at hje
  exact (List.pairwise_iff_getElem.1 hnd j i (by omega) hl hj') hje
theorem ownIJ_in (l : List Card) (hnd : (uids l).Nodup) (i j : Nat) (h : i < l.length) (s : ByteArray) : inB (gc l i).uid (ownIJ l i j s) = inB s ((gc l i).owners.take j) := by
  rw [Bool.eq_iff_iff, inB_iff]
  unfold ownIJ
  rw [List.mem_append]
  constructor
  · rintro (h1 | h1)
    · rw [mem_ownedBy] at h1
      obtain ⟨c, hc, _, he⟩ := h1
      exact absurd (by rw [← uids_take, ← he]; exact List.mem_map.2 ⟨c, hc, rfl⟩) (not_before l hnd i h)
    · split at h1
      · assumption
      · simp at h1
  · intro h1; right; rw [if_pos h1]; simp
theorem take_succ_own (os : List ByteArray) (j : Nat) (h : j < os.length) : os.take (j + 1) = os.take j ++ [os.getD j ByteArray.empty] := by
  rw [List.take_add_one]; simp [List.getD, h]
theorem ownIJ_again (l : List Card) (i j : Nat) (hj : j < (gc l i).owners.length) (hin : inB ((gc l i).owners.getD j ByteArray.empty) ((gc l i).owners.take j) = true) (s : ByteArray) : ownIJ l i (j + 1) s = ownIJ l i j s := by
  unfold ownIJ
  have : inB s ((gc l i).owners.take (j + 1)) = inB s ((gc l i).owners.take j) := by
    rw [Bool.eq_iff_iff, inB_iff, inB_iff, take_succ_own _ _ hj, List.mem_append, List.mem_singleton]
    constructor
    · rintro (h | h)
      · exact h
      · rw [h]; exact (inB_iff _ _).1 hin
    · exact .inl
  rw [this]
theorem ownIJ_new (l : List Card) (i j : Nat) (hj : j < (gc l i).owners.length) (hin : inB ((gc l i).owners.getD j ByteArray.empty) ((gc l i).owners.take j) = false) (s : ByteArray) :
    (if s = (gc l i).owners.getD j ByteArray.empty then ownIJ l i j ((gc l i).owners.getD j ByteArray.empty) ++ [(gc l i).uid] else ownIJ l i j s) = ownIJ l i (j + 1) s := by
  unfold ownIJ
  by_cases e : s = (gc l i).owners.getD j ByteArray.empty
  · subst e
    rw [if_pos rfl, hin, if_neg (by simp), if_pos (by rw [inB_iff, take_succ_own _ _ hj]; simp)]
    simp
  · rw [if_neg e]
    have : inB s ((gc l i).owners.take (j + 1)) = inB s ((gc l i).owners.take j) := by
      rw [Bool.eq_iff_iff, inB_iff, inB_iff, take_succ_own _ _ hj, List.mem_append, List.mem_singleton]
      exact ⟨fun h => h.resolve_right e, .inl⟩
    rw [this]
theorem Owns.congr {w : World} {base m c : Nat} {f : ByteArray → Option Value} {own own' : ByteArray → List ByteArray} (h : Owns w base m c f own) (e : ∀ s, own s = own' s) : Owns w base m c f own' := by
  have : own = own' := funext e
  rw [← this]; exact h
/-- refs.graph in memory. -/
def GraphAt (w : World) (m1 m2 : Nat) (l : List Card) : Prop :=
  (∃ c f, FM w m1 c f ∧ ∀ s, (f s).isSome = inB s (uids l)) ∧ ∃ c f, FM w m2 c f ∧ ∀ s, StrsAt w ((f s).getD nilS) (ownedBy l s)
def ofW (w : World) : World := (((w.alloc (.cells #[.map none, .map none] 41)).alloc (.map #[] 0)).alloc (.map #[] 0)).alloc (.cells #[.map (some (w.heap.size + 1)), .map (some (w.heap.size + 1 + 1))] 41)
theorem ofW_size (w : World) : (ofW w).heap.size = w.heap.size + 1 + 1 + 1 + 1 := by simp [ofW]
theorem ofW_chg (w : World) : Chg [] w (ofW w) := ((((Chg.refl [] w).alloc _).alloc _).alloc _).alloc _
theorem ofW_box (w : World) : (ofW w).heap[w.heap.size + 1 + 1 + 1]? = some (.cells #[.map (some (w.heap.size + 1)), .map (some (w.heap.size + 1 + 1))] 41 (0, 0)) := by
  have := World.alloc_heap_new (((w.alloc (.cells #[.map none, .map none] 41)).alloc (.map #[] 0)).alloc (.map #[] 0)) (.cells #[.map (some (w.heap.size + 1)), .map (some (w.heap.size + 1 + 1))] 41)
  simpa [ofW] using this
theorem ofW_res (w : World) : (ofW w).heap[w.heap.size]? = some (.cells #[.map none, .map none] 41 (0, 0)) := by
  have := World.alloc_heap_new w (.cells #[.map none, .map none] 41)
  have h2 := (((Chg.refl [] (w.alloc (.cells #[.map none, .map none] 41))).alloc (.map #[] 0)).alloc (.map #[] 0)).alloc (.cells #[.map (some (w.heap.size + 1)), .map (some (w.heap.size + 1 + 1))] 41)
  exact h2.heap this (by simp)
theorem ofW_m1 (w : World) : FM (ofW w) (w.heap.size + 1) 0 (fun _ => none) := by
  have h := FM.made (w.alloc (.cells #[.map none, .map none] 41))
  rw [World.size_alloc] at h
  exact h.chg (((Chg.refl [] _).alloc (.map #[] 0)).alloc (.cells #[.map (some (w.heap.size + 1)), .map (some (w.heap.size + 1 + 1))] 41)) (by simp)
theorem ofW_m2 (w : World) (base : Nat) : Owns (ofW w) base (w.heap.size + 1 + 1) 0 (fun _ => none) (fun _ => []) := by
  have h := Owns.start ((w.alloc (.cells #[.map none, .map none] 41)).alloc (.map #[] 0)) base
  rw [World.size_alloc, World.size_alloc] at h
  exact h.chg (ls := []) ((Chg.refl [] _).alloc (.cells #[.map (some (w.heap.size + 1)), .map (some (w.heap.size + 1 + 1))] 41)) (by simp) (by simp)
theorem zero23 (w : World) : (zeroValue 23).run Try.prog w = .ok nilS w := by simp [go_sem, nilS]
def Of1 (w : World) (l : List Card) (v : Value) (wr : World) : Prop := ∃ i : Nat, v = .int .i64 i ∧ i ≤ l.length ∧ Chg [w.heap.size + 1, w.heap.size + 1 + 1] (ofW w) wr ∧
  (∃ c f, FM wr (w.heap.size + 1) c f ∧ c ≤ i ∧ ∀ s, (f s).isSome = inB s ((uids l).take i)) ∧ ∃ c f, Owns wr (ofW w).heap.size (w.heap.size + 1 + 1) c f (ownedBy (l.take i)) ∧ c ≤ 4 * i
def Of2 (w : World) (l : List Card) (i xb : Nat) (sl : Value) (c1 : Nat) (f1 : ByteArray → Option Value) (v : Value) (wr : World) : Prop := ∃ j : Nat, v = .int .i64 j ∧ j ≤ (gc l i).owners.length ∧ Chg [w.heap.size + 1, w.heap.size + 1 + 1] (ofW w) wr ∧
  wr.heap[xb]? = some (.cells #[.string (gc l i).uid, sl] 31 (0, 0)) ∧ FM wr (w.heap.size + 1) c1 f1 ∧ ∃ c f, Owns wr (ofW w).heap.size (w.heap.size + 1 + 1) c f (ownIJ l i j) ∧ c ≤ 4 * i + j
theorem of_chg {w wr : World} (h : Chg [w.heap.size + 1, w.heap.size + 1 + 1] (ofW w) wr) : Chg [] w wr :=
  (ofW_chg w).trans' h (fun x hx => by simp at hx; right; omega)
theorem of_box {w wr : World} (h : Chg [w.heap.size + 1, w.heap.size + 1 + 1] (ofW w) wr) : wr.cell? ⟨w.heap.size + 1 + 1 + 1, 0, none⟩ = some (.map (some (w.heap.size + 1))) ∧ wr.cell? ⟨w.heap.size + 1 + 1 + 1, 1, none⟩ = some (.map (some (w.heap.size + 1 + 1))) := by
  have := h.heap (ofW_box w) (by simp; omega)
  exact ⟨by rw [cell_of_row _ _ _ _ _ _ this]; rfl, by rw [cell_of_row _ _ _ _ _ _ this]; rfl⟩
set_option maxHeartbeats 2000000 in
theorem of_any (a : Option Addr) (cap : Nat) (l : List Card) (w : World) (h : CardsAt w (.slice a l.length cap) l) (hlen : l.length ≤ 60) (hnd : (uids l).Nodup) (h4 : ∀ c ∈ l, c.owners.length ≤ 4) :
    Calls Try.prog 14 #[.slice a l.length cap] w fun e w' => ∃ m1 m2, e = .returned (.agg #[.map (some m1), .map (some m2)]) ∧ GraphAt w' m1 m2 l ∧ Chg [] w w' := by
  have HA := Lib.hid h
  have HND := Lib.hid hnd
  have H4 := Lib.hid h4
  have H0 : Hid (Of1 w l (.int .i64 0) (ofW w)) := ⟨0, rfl, Nat.zero_le _, Chg.refl _ _, ⟨_, _, ofW_m1 w, Nat.le_refl _, fun s => by simp [(inB_false s []).2]⟩, _, _, (ofW_m2 w _).congr (fun s => by simp [ownedBy]), Nat.zero_le _⟩
  clear h hnd h4
  go_enter Try.func14, Try.ntmps14
  go_wp2_with fail
  go_loopw [13] (fun v wr => Of1 w l v wr) (fun v _ => l.length - (intOf v).toNat)
  case atStart => exact H0.out
  case round =>
    clear H0
    obtain ⟨i, rfl, hi, hch, ⟨c1, f1, hf1, hc1, hdom⟩, c2, f2, hown, hc2⟩ := hrel
    have HC := Lib.hid hch
    have HF1 := Lib.hid hf1
    have HD := Lib.hid hdom
    have HW := Lib.hid hown
    obtain ⟨y1, y2⟩ := of_box hch
    clear hch hf1 hdom hown
    by_cases hlt : i < l.length
    · rcases HA.out with ⟨a', cap', h1, h2⟩ | ⟨b, off, cap', h1, hl1, hl2, hl3, hat⟩
      · subst h2; simp at hlt
      · injection h1 with h1 h2 h3
        subst h1 h3
        obtain ⟨v, k1, k2, hs, hu, hso, hol⟩ := hat i hlt
        obtain ⟨a2, cap2, rfl⟩ := hs.shape
        have k1' := (of_chg HC.out).cell k1 (by simp)
        have k2' := (of_chg HC.out).cell k2 (by simp)
        have HS := Lib.hid hs
        have HSO := Lib.hid hso
        have ho4 := H4.out _ (gc_mem l i hlt)
        clear hs hso hat k1 k2
        have wO := Lib.hid (show Chg [] wr (wr.alloc (.cells #[.string (gc l i).uid, .slice a2 (gc l i).owners.length cap2] 31)) from (Chg.refl [] wr).alloc _)
        have z1 := wO.out.cell y1 (by simp)
        have z2 := wO.out.cell y2 (by simp)
        obtain ⟨w2, hw2, hf2, hch2, hs2⟩ := (HF1.out.chg wO.out (by simp)).set Try.underlying37 (by omega) (gc l i).uid hu (.int .i64 i)
        have hsz0 := HC.out.size
        rw [ofW_size] at hsz0
        have HC2 := Lib.hid (show Chg [w.heap.size + 1, w.heap.size + 1 + 1] (ofW w) w2 from (HC.out.trans (wO.out.mono (by simp))).trans (hch2.mono (fun x hx => by simp at hx; simp [hx])))
        have hxb : w2.heap[wr.heap.size]? = some (.cells #[.string (gc l i).uid, .slice a2 (gc l i).owners.length cap2] 31 (0, 0)) := hch2.heap (World.alloc_heap_new wr _) (by simp; omega)
        have d1 : w2.cell? ⟨wr.heap.size, 0, none⟩ = some (.string (gc l i).uid) := by rw [cell_of_row _ _ _ _ _ _ hxb]; rfl
        have d2 : w2.cell? ⟨wr.heap.size, 1, none⟩ = some (.slice a2 (gc l i).owners.length cap2) := by rw [cell_of_row _ _ _ _ _ _ hxb]; rfl
        obtain ⟨e1, e2⟩ := of_box HC2.out
        have HW2 := Lib.hid (show Owns w2 (ofW w).heap.size (w.heap.size + 1 + 1) c2 f2 (ownIJ l i 0) from ((HW.out.chg wO.out (by simp) (by simp)).chg hch2 (by simp) (fun k hk cur => by
          simp at hk; subst hk
          obtain ⟨_, _, hm⟩ := (HF1.out.chg wO.out (by simp)).isMap
          rw [hm]; simp)).congr (fun s => (ownIJ_zero l i s).symm))
        have H1 : Hid (Of2 w l i wr.heap.size (.slice a2 (gc l i).owners.length cap2) _ _ (.int .i64 0) w2) := ⟨0, rfl, Nat.zero_le _, HC2.out, hxb, hf2, c2, f2, HW2.out, by omega⟩
        have HF2 := Lib.hid hf2
        clear hf2 hch2 hxb HW2
        go_wp2_with fail
        clear d1 d2 e1 e2 z1 z2 y1 y2 k1' k2' hw2 wO
        obtain ⟨f3, hf3⟩ : ∃ f3, upd f1 (gc l i).uid (some (.int .i64 i)) = f3 := ⟨_, rfl⟩
        obtain ⟨c3, hc3⟩ : ∃ c3, (if (f1 (gc l i).uid).isSome = true then c1 else c1 + 1) = c3 := ⟨_, rfl⟩
        rw [hf3, hc3] at H1
        have HF3 := Lib.hid hf3
        have HC3 := Lib.hid hc3
        clear hf3 hc3
        obtain ⟨wo, rfl⟩ : ∃ wo : World, wo = wr := ⟨_, rfl⟩
        go_loopw [26] (fun v wq => Of2 w l i wo.heap.size (.slice a2 (gc l i).owners.length cap2) c3 f3 v wq) (fun v _ => (gc l i).owners.length - (intOf v).toNat)
        case atStart => exact H1.out
        case round =>
          clear H1
          obtain ⟨j, rfl, hj, hch, hxb, hf1q, c4, f4, hown, hc4⟩ := hrel
          have d1 : wr.cell? ⟨wo.heap.size, 0, none⟩ = some (.string (gc l i).uid) := by rw [cell_of_row _ _ _ _ _ _ hxb]; rfl
          obtain ⟨e1, e2⟩ := of_box hch
          have hsz1 := hch.size
          rw [ofW_size] at hsz1
          have HXB := Lib.hid hxb
          have HCH := Lib.hid hch
          have HF1q := Lib.hid hf1q
          have HOW := Lib.hid hown
          have hxlt : wo.heap.size < wr.heap.size := (Array.getElem?_eq_some_iff.1 hxb).1
          clear hxb hch hf1q hown
          by_cases hjl : j < (gc l i).owners.length
          · have hs2 := HS.out.chg (of_chg HCH.out) (fun _ _ _ _ _ => by simp)
            obtain ⟨b2, off2, rfl, _, hcell⟩ := strs_cell hs2 (by omega)
            have hcj := hcell j hjl
            have hso := HSO.out.at j
            obtain ⟨o, ho⟩ : ∃ o, (gc l i).owners.getD j ByteArray.empty = o := ⟨_, rfl⟩
            rw [ho] at hcj hso
            have HO := Lib.hid ho
            clear hs2 hcell ho
            have hlk := HOW.out.map.look Try.underlying39 zero23 o hso
            have CC := Lib.hid (contains_any _ _ (gc l i).uid wr (HOW.out.rows o).strs)
            rw [ownIJ_in l HND.out i j hlt o] at CC
            obtain ⟨a3, cap3, hv3⟩ := (HOW.out.rows o).shape
            rw [hv3] at hlk CC
            cases hin : inB o ((gc l i).owners.take j)
            · rw [hin] at CC
              have hol2 : (ownIJ l i j o).length ≤ 1000 := by
                unfold ownIJ
                rw [List.length_append]
                have h1 := ownedBy_length (l.take i) o
                rw [List.length_take] at h1
                split <;> simp <;> omega
              obtain ⟨wA, hwA⟩ : ∃ wA, (wr.alloc (.cells #[.string (gc l i).uid] 9)).drew = wA := ⟨_, rfl⟩
              have hcA : Chg [] wr wA := by rw [← hwA]; exact ((Chg.refl [] wr).alloc _).drew
              obtain ⟨a', c', w3, w4, r1, r2, ⟨d, g, hown4, hd⟩, L, hL, hL3, hL'⟩ := (HOW.out.chg hcA (by simp) (by simp)).step o (gc l i).uid hso ⟨wr.heap.size, 0, none⟩ (by rw [← hwA]; simp) hol2 (by omega) (by rw [ofW_size]; have := hcA.size; omega)
              have hlkA := (HOW.out.chg hcA (by simp) (by simp)).map.look Try.underlying39 zero23 o hso
              rw [hv3] at hlkA r1
              have e1A := hcA.cell e1 (by simp)
              have e2A := hcA.cell e2 (by simp)
              have d1A := hcA.cell d1 (by simp)
              rw [← hwA] at hlkA e1A e2A d1A r1
              have hbxn : w.heap.size + 1 + 1 + 1 ∉ L := fun hm => by
                rcases hL' _ hm with e | ⟨e, _⟩
                · omega
                · rw [ofW_size] at e; omega
              have e2B := hL3.cell (p := ⟨w.heap.size + 1 + 1 + 1, 1, none⟩) (hcA.cell e2 (by simp)) hbxn
              have hxbn : wo.heap.size ∉ L := fun hm => by
                rcases hL' _ hm with e | ⟨e, cur, hcur⟩
                · have := HC.out.size; rw [ofW_size] at this; omega
                · rw [hcA.heap HXB.out (by simp)] at hcur; simp at hcur
              have HX4 := Lib.hid (hL.heap (hcA.heap HXB.out (by simp)) hxbn)
              have HF4 := Lib.hid ((HF1q.out.chg hcA (by simp)).chg hL (fun hm => by
                rcases hL' _ hm with e | ⟨e, _⟩
                · omega
                · rw [ofW_size] at e; omega))
              have HC4 := Lib.hid (show Chg [w.heap.size + 1, w.heap.size + 1 + 1] (ofW w) w4 from (HCH.out.trans (hcA.mono (by simp))).trans' hL (fun x hx => by
                rcases hL' _ hx with e | ⟨e, _⟩
                · left; simp [e]
                · right; exact e))
              clear hbxn hxbn hL3
              have HIN := Lib.hid hin
              have HOWN4 := Lib.hid hown4
              have HL := Lib.hid hL
              have HL' := Lib.hid hL'
              have HCA := Lib.hid hcA
              have hlkD : (Instr.lookup 39 (.map (some (w.heap.size + 1 + 1))) (.string o) false).run Try.prog wr.drew = .ok (.slice a3 (ownIJ l i j o).length cap3) wr.drew := by
                have := (HOW.out.map.chg ((Chg.refl [] wr).drew) (by simp)).look Try.underlying39 zero23 o hso
                rw [hv3] at this; exact this
              clear hin hown4 hL hL' hcA hv3
              subst hwA
              go_wp2_with fail
              refine CC.out.mono ?_
              rintro e w' ⟨rfl, rfl⟩
              go_wp2_with fail
              go_region
              all_goals go_wp2_with fail
              have hno := ownIJ_new l i j hjl (by rw [HO.out]; exact HIN.out)
              rw [HO.out] at hno
              refine ⟨⟨j + 1, by go_num, by omega, HC4.out, HX4.out, HF4.out, d, g, HOWN4.out.congr hno, by omega⟩, ?_⟩
              simp [intOf]; omega
            · rw [hin] at CC
              have HIN := Lib.hid hin
              clear hin hv3
              go_wp2_with fail
              refine CC.out.mono ?_
              rintro e w' ⟨rfl, rfl⟩
              go_wp2_with fail
              have hag := ownIJ_again l i j hjl (by rw [HO.out]; exact HIN.out)
              refine ⟨⟨j + 1, by go_num, by omega, HCH.out, HXB.out, HF1q.out, c4, f4, HOW.out.congr (fun s => (hag s).symm), by omega⟩, ?_⟩
              simp [intOf]; omega
          · go_wp2_with fail
            go_roundw
            case rel =>
              refine ⟨i + 1, by go_num, by omega, HCH.out, ⟨c3, f3, HF1q.out, by rw [← HC3.out]; split <;> omega, fun s => ?_⟩, c4, f4, HOW.out.congr (fun s => ownIJ_end l i j hlt (by omega) s), by omega⟩
              rw [← HF3.out]
              unfold upd
              have ht : (uids l).take (i + 1) = (uids l).take i ++ [(gc l i).uid] := by rw [← uids_take, take_succ_gc l i hlt]; simp [uids, List.map_take]
              rw [ht, Bool.eq_iff_iff, inB_iff]
              by_cases e : s = (gc l i).uid
              · subst e; simp
              · rw [if_neg e, HD.out s, inB_iff]; simp [e]
            case measure => simp [intOf]; omega
    · have hres := HC.out.heap (ofW_res w) (by simp; omega)
      have g1 : wr.cell? ⟨w.heap.size, 0, none⟩ = some (.map none) := by rw [cell_of_row _ _ _ _ _ _ hres]; rfl
      have g2 : wr.cell? ⟨w.heap.size, 1, none⟩ = some (.map none) := by rw [cell_of_row _ _ _ _ _ _ hres]; rfl
      have g3 := frozen_of_row wr w.heap.size 0 _ _ hres
      have g4 := frozen_of_row wr w.heap.size 1 _ _ hres
      go_wp2_with fail
      have q1 : ((wr.setCell ⟨w.heap.size, 0, none⟩ (.map (some (w.heap.size + 1)))).setCell ⟨w.heap.size, 1, none⟩ (.map (some (w.heap.size + 1 + 1)))).heap[w.heap.size]? = some (.cells #[.map (some (w.heap.size + 1)), .map (some (w.heap.size + 1 + 1))] 41 (0, 0)) :=
        heap_setCell_same _ _ 1 _ _ _ (heap_setCell_same _ _ 0 _ _ _ hres)
      refine bodyPost_ret (v := .agg #[.map (some (w.heap.size + 1)), .map (some (w.heap.size + 1 + 1))]) (by
        have r1 := cell_of_row _ w.heap.size 0 _ _ _ q1
        have r2 := cell_of_row _ w.heap.size 1 _ _ _ q1
        simp at r1 r2
        simp [results, show Try.f14.results = #[.cell 2 41] from rfl, go_sem, r1, r2]) rfl ?_
      have hset : Chg [w.heap.size] wr ((wr.setCell ⟨w.heap.size, 0, none⟩ (.map (some (w.heap.size + 1)))).setCell ⟨w.heap.size, 1, none⟩ (.map (some (w.heap.size + 1 + 1)))) :=
        ((Chg.refl _ wr).setCell (.inl (by simp)) _).setCell (.inl (by simp)) _
      have hil : i = l.length := by omega
      subst hil
      refine ⟨_, _, rfl, ⟨⟨c1, f1, HF1.out.chg hset (by simp), fun s => ?_⟩, c2, f2, (HW.out.map).chg hset (by simp; omega), fun s => ?_⟩, (of_chg HC.out).trans' hset (fun x hx => by simp at hx; subst hx; exact .inr (Nat.le_refl _))⟩
      · have := HD.out s
        rw [List.take_of_length_le (by simp [uids])] at this
        exact this
      · have := ((HW.out.rows s).chg hset (fun k hk hm => by
          have := HW.out.above s k hk
          rw [ofW_size] at this
          simp at hm; omega)).strs
        rw [List.take_length] at this
        exact this
end Go.Proofs.Ytfdfljcieeccbaa
