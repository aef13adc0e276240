/- THE WALKS of heap.Push and heap.Pop over a line. Conditions: a line that is a heap lies behind the pointer; at most 64 (Push: fewer) things. -/
import Derived.Test.YtdpkplnffemmgaaPush
import Derived.Test.YtdpkplnffemmgaaUp
import Derived.Test.YtdpkplnffemmgaaDown
namespace Go.Proofs.Ytdpkplnffemmgaa
open Go.RowKit
def HPushed (fb fo : Nat) (qv : Value) (ts : List Th) (t : Th) (w : World) (e : Ending) (w' : World) : Prop :=
  e = .returned (.tuple #[]) ∧ Oth fb fo w w' ∧ ∃ qv' ts', LineAt w' fb fo qv' ts' ∧ ts'.Perm (ts ++ [t]) ∧ HeapN ts' ts'.length ∧ LChg fb qv qv' w w' ∧ qv' ≠ .slice none 0 0
theorem hpush_end (fb fo : Nat) (qv : Value) (ts : List Th) (t : Th) (w w1 w2 : World) (g cap : Nat) (h1 : LineAt w1 fb fo (.slice (some ⟨g, 0, none⟩) (ts.length + 1) cap) (ts ++ [t])) (hL : LChg fb qv (.slice (some ⟨g, 0, none⟩) (ts.length + 1) cap) w w1)
    (ho : Oth fb fo w w1) (e : Ending) (hu : QUp g cap (ts ++ [t]) w1 e w2) : HPushed fb fo qv ts t w e w2 := by
  obtain ⟨rfl, ts', hq, hp, hh, hc⟩ := hu
  obtain ⟨hn, hq1, hne⟩ := h1.queue
  have hl : ts'.length = ts.length + 1 := by rw [hp.length_eq]; simp
  have hgl : g ∈ (fb :: qv.ownBlock.toList) ∨ w.heap.size ≤ g := by
    rcases hL.2 with h | h | ⟨g', h, hge⟩
    · have h' : some g = qv.ownBlock := h
      left; rw [← h']; simp
    · simp [Value.ownBlock] at h
    · simp [Value.ownBlock] at h; subst h; exact .inr hge
  refine ⟨rfl, ho.trans (Oth.of_chg hc (World.block_lt_of_cell? w1 _ h1.cell) (by simpa using fun e => hne e.symm)), .slice (some ⟨g, 0, none⟩) (ts.length + 1) cap, ts', ⟨?_, ?_, ?_, h1.apart⟩, hp, ?_, ⟨?_, hL.2⟩, by simp⟩
  · exact hc.cell h1.cell (by simpa using fun e => hne e.symm)
  · exact hc.frz h1.frozen (World.block_lt_of_cell? w1 _ h1.cell) (by simpa using fun e => hne e.symm)
  · rw [← hl]; exact hq
  · rw [hl]; simpa using hh
  · exact hL.1.trans' hc (fun x hx => by simp at hx; subst hx; exact hgl)
set_option maxHeartbeats 400000 in
theorem hpush (fb fo : Nat) (qv : Value) (ts : List Th) (t : Th) (w : World) (hL : LineAt w fb fo qv ts) (hh : HeapN ts ts.length) (h64 : ts.length < 64) :
   Calls Try.prog 15 #[.iface 48 (.pointer (some ⟨fb, fo, none⟩)), .iface 50 (.agg #[.int .i64 t.id, .int .i64 t.fl, .int .i64 t.st])] w (HPushed fb fo qv ts t w) := by
  have CP := Lib.hid (push_l fb fo qv ts t w hL (by omega))
  have hm := fun w => m_push ⟨fb, fo, none⟩ w
  clear hL
  have HH := Lib.hid hh
  clear hh
  go_enter Try.func15, Try.ntmps15
  go_wp2_with fail
  refine CP.out.mono ?_
  rintro e w1 ⟨rfl, ho1, qv', hl1, hc1, hne⟩
  obtain ⟨g, cap, rfl⟩ : ∃ g cap, qv' = .slice (some ⟨g, 0, none⟩) (ts.length + 1) cap := by have := owned_shape hl1.owns hne; simpa using this
  have hcell := hl1.cell
  have hml := m_len hcell
  have HE := Lib.hid (fun e w2 => hpush_end fb fo qv ts t w w1 w2 g cap hl1 hc1 ho1 e)
  obtain ⟨hx, hq1, hgb⟩ := hl1.queue
  clear hx
  have CU := Lib.hid (up_q fb fo g cap ts.length (ts ++ [t]) w1 hq1 (by simp) (by have := Upping.start (l := ts ++ [t]) (heapN_append HH.out); simpa using this) (fun e => hgb e.symm) (by simpa using hcell))
  clear hl1 hc1 hq1 CP HH ho1
  go_wp2_with fail
  refine (len_any _ _ _ _).mono ?_
  rintro e w2 ⟨rfl, rfl⟩
  go_wp2_with fail
  refine CU.out.mono ?_
  intro e w2 hu
  have hE := HE.out e w2 hu
  obtain ⟨he, _⟩ := hu
  subst he
  have HE2 := Lib.hid hE
  clear hE
  go_wp2_with fail
  go_end0
  exact HE2.out

def HPopped (fb fo qb cap m : Nat) (ts : List Th) (w : World) (e : Ending) (w' : World) : Prop :=
  (∃ v, e = .returned v) ∧ Oth fb fo w w' ∧ ∃ ts', LineAt w' fb fo (.slice (some ⟨qb, 0, none⟩) m cap) ts' ∧ (gt ts 0 :: ts').Perm ts ∧ HeapN ts' ts'.length ∧ Chg [fb, qb] w w'
set_option maxHeartbeats 400000 in
theorem hpop (fb fo qb cap m : Nat) (ts : List Th) (w : World) (hL : LineAt w fb fo (.slice (some ⟨qb, 0, none⟩) (m + 1) cap) ts) (hh : HeapN ts (m + 1)) (h64 : m < 64) :
   Calls Try.prog 16 #[.iface 48 (.pointer (some ⟨fb, fo, none⟩))] w (HPopped fb fo qb cap m ts w) := by
  obtain ⟨hn, hq, hne⟩ := hL.queue
  have hcell := hL.cell
  have hml := m_len hcell
  have hms := m_swap hcell
  have CS : Calls Try.prog 38 #[.slice (some ⟨qb, 0, none⟩) (m + 1) cap, .int .i64 0, .int .i64 m] w (QSwapped qb cap (swp ts 0 m) w) := by
    rw [hn]
    by_cases h0 : m = 0
    · subst h0
      rw [swp_same ts 0 (by omega)]
      exact swap_self qb cap 0 ts w hq (by omega)
    · exact swap_q qb cap 0 m ts w hq (by omega) (by omega) (by omega)
  have CS1 := Lib.hid CS
  have HL := Lib.hid hL
  have HH := Lib.hid hh
  have HN := Lib.hid hn
  clear hL hh hq hn CS
  go_enter Try.func16, Try.ntmps16
  go_wp2_with fail
  refine (len_any _ _ _ _).mono ?_
  rintro e w2 ⟨rfl, rfl⟩
  go_wp2_with fail
  refine CS1.out.mono ?_
  rintro e w1 ⟨rfl, hq1, hc1⟩
  have hcell1 := hc1.cell hcell (by simpa using fun e => hne e.symm)
  have hl1 : (swp ts 0 m).length = m + 1 := by rw [swp_length]; exact HN.out.symm
  have CD := Lib.hid (down_q fb fo qb cap m (swp ts 0 m) w1 hq1 (by omega) (by omega) (pop_start HH.out HN.out.symm) (fun e => hne e.symm) (by rw [hl1]; exact hcell1))
  have HC1 := Lib.hid hc1
  have HQ1 := Lib.hid hq1
  have HL1 := Lib.hid hl1
  clear hc1 hq1 CS1 hml hms hl1
  have hmp := fun w => m_pop ⟨fb, fo, none⟩ w
  go_wp2_with fail
  refine CD.out.mono ?_
  rintro e w2 ⟨⟨b, rfl⟩, ts2, hq2, hp2, hh2, hlast, hc2⟩
  have hl2 : ts2.length = m + 1 := by rw [hp2.length_eq]; exact HL1.out
  have hchg : Chg [qb] w w2 := HC1.out.trans hc2
  have hL2 : LineAt w2 fb fo (.slice (some ⟨qb, 0, none⟩) (m + 1) cap) ts2 := ⟨hc2.cell hcell1 (by simpa using fun e => hne e.symm), hchg.frz HL.out.frozen (World.block_lt_of_cell? w _ hcell) (by simpa using fun e => hne e.symm), by rw [← hl2]; exact hq2, fun k hk => by simp [Value.ownBlock] at hk; subst hk; exact hne⟩
  have CP := Lib.hid (pop_l fb fo qb cap m ts2 w2 hL2 (by omega))
  have hlast' : gt ts2 m = gt ts 0 := by
    rw [hlast, gt_swp _ _ _ _ (by have := HN.out; omega) (by have := HN.out; omega), if_pos rfl]
  have hpm : ts2.Perm ts := hp2.trans (swp_perm _ _ _ (by have := HN.out; omega) (by have := HN.out; omega))
  have HE : Hid (∀ (e : Ending) (w3 : World), Popped fb fo qb cap m ts2 w2 e w3 → HPopped fb fo qb cap m ts w e w3) := fun e w3 hp => by
    obtain ⟨rfl, hl3, hc3, ho3⟩ := hp
    refine ⟨⟨_, rfl⟩, (Oth.of_chg hchg (World.block_lt_of_cell? w _ hcell) (by simpa using fun e => hne e.symm)).trans ho3, ts2.take m, hl3, perm_take_last HN.out.symm hpm hlast', ?_, ?_⟩
    · have : (ts2.take m).length = m := by rw [List.length_take]; omega
      rw [this]; exact heap_take hh2 (by omega)
    · exact (hchg.mono (fun x hx => .inl (by simp at hx; simp [hx]))).trans' hc3 (fun x hx => .inl (by simp at hx; simp [hx]))
  clear hq2 hp2 hh2 hlast hc2 hl2 hchg hL2 hlast' hpm HC1 HQ1 HL1 CD
  go_wp2_with fail
  refine CP.out.mono ?_
  intro e w3 hp
  have hE := HE.out e w3 hp
  obtain ⟨he, _⟩ := hp
  subst he
  have HE2 := Lib.hid hE
  clear hE
  go_wp2_with fail
  go_ret
  exact HE2.out
end Go.Proofs.Ytdpkplnffemmgaa
