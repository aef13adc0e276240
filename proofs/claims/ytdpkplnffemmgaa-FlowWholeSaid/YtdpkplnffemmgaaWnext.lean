/- THE WALK of FlowWhole's own 'next'. Conditions: what it captured lies there. -/
import Derived.Test.YtdpkplnffemmgaaWmem
namespace Go.Proofs.Ytdpkplnffemmgaa
open Go.RowKit

structure St (B0 : Nat) (L : WLay) (ws : List Int) (N m : Nat) (W : World) : Prop where
  ex : ∃ R qv vs es now ts Ss, WMem B0 L ws R qv vs es now ts (Ss.map fun S => S.map Th.id) m W ∧ ts.length = m ∧ QInv ws.length es Ss ts ∧ (∀ t ∈ ts, 0 ≤ t.st) ∧ 0 ≤ now ∧ now ≤ 2520000 * N ∧
    ∀ k, k < ws.length → 0 ≤ es.getD k 0 ∧ es.getD k 0 ≤ 2520000 * N

theorem getD_map {α β : Type} (l : List α) (f : α → β) (k : Nat) (a : α) (h : k < l.length) : (l.map f).getD k (f a) = f (l.getD k a) := by
  simp [List.getD, h]

theorem next_st0 (B0 : Nat) (L : WLay) (ws : List Int) (N : Nat) (W : World) (h : St B0 L ws N 0 W) :
    Calls Try.prog 10 #[.pointer (some ⟨L.bf, 0, none⟩), .pointer (some ⟨L.bm, 0, none⟩), .pointer (some ⟨L.bw, 0, none⟩)] W fun e W' => e = .returned (.bool true) ∧ W = W' := by
  obtain ⟨R, qv, vs, es, now, ts, Ss, hm, hlen, _⟩ := h.ex
  have : ts = [] := List.eq_nil_of_length_eq_zero hlen
  subst this
  have CN := Lib.hid (next_none L.F ws es now qv W hm.fair)
  have hcf := hm.cf
  have hcm := hm.cm
  clear hm h hlen
  go_enter Try.func10, Try.ntmps10
  go_wp2_with fail
  refine CN.out.mono ?_
  rintro e w' ⟨rfl, rfl⟩
  go_wp2_with fail
  go_ret
  exact ⟨rfl, rfl⟩

theorem next_fin (B0 : Nat) (L : WLay) (ws : List Int) (N m : Nat) (W W1 : World) (R : Nat → Nat) (qb cap : Nat) (vs : List Value) (es : List Int) (now : Int) (ts ts' : List Th) (Ss : List (List Th)) (k : Nat) (rest : List Th)
    (hm : WMem B0 L ws R (.slice (some ⟨qb, 0, none⟩) (m + 1) cap) vs es now ts (Ss.map fun S => S.map Th.id) ((m : Int) + 1) W) (hlen : ts.length = m + 1) (hpos : ∀ t ∈ ts, 0 ≤ t.st)
    (hes : ∀ k, k < ws.length → 0 ≤ es.getD k 0 ∧ es.getD k 0 ≤ 2520000 * N) (hq : QInv ws.length es Ss ts)
    (hf : FairAt W1 L.F ws es (gt ts 0).st (.slice (some ⟨qb, 0, none⟩) m cap) ts') (hpop : (gt ts 0 :: ts').Perm ts) (hh : HeapN ts' ts'.length) (hc : Chg [L.F.fb, qb] W W1)
    (hk : k < ws.length) (hfl : (gt ts 0).fl = k) (hS : Ss.getD k [] = gt ts 0 :: rest) (hq' : QInv ws.length es (Ss.set k rest) ts') :
    ∃ g off c, vs.getD k undef = .slice (some ⟨g, off, none⟩) (rest.length + 1) c ∧ rest.length + 1 ≤ c ∧ c ≤ 9223372036854775807 ∧ W1.cell? ⟨g, off, none⟩ = some (.int .i64 (gt ts 0).id) ∧
      W1.cell? ⟨L.rb, k, none⟩ = some (.slice (some ⟨g, off, none⟩) (rest.length + 1) c) ∧ W1.frozen? ⟨L.rb, k, none⟩ = false ∧ W1.cell? ⟨L.bw, 0, none⟩ = some (.slice (some ⟨L.rb, 0, none⟩) ws.length ws.length) ∧
      W1.cell? ⟨L.bm, 0, none⟩ = some (.int .i64 ((m : Int) + 1)) ∧ W1.frozen? ⟨L.bm, 0, none⟩ = false ∧ L.rb ≠ L.bm ∧
      ∀ j, St B0 L ws N m (((W1.setCell ⟨L.rb, k, none⟩ (.slice (some (if c = 1 then ⟨g, off, none⟩ else ⟨g, off + 1, none⟩)) rest.length (c - 1))).setCell ⟨L.bm, 0, none⟩ (.int .i64 m)).drewN j) ∧
        Below B0 W (((W1.setCell ⟨L.rb, k, none⟩ (.slice (some (if c = 1 then ⟨g, off, none⟩ else ⟨g, off + 1, none⟩)) rest.length (c - 1))).setCell ⟨L.bm, 0, none⟩ (.int .i64 m)).drewN j) := by
  obtain ⟨R1, h1⟩ := hm.queue hf hh hc (fun x hx => by
    simp at hx
    rcases hx with e | e
    · subst e; exact hm.rF.1
    · subst e; exact hm.rQ x rfl) (.inl rfl)
  have hvl := h1.vlen
  have hkS : k < Ss.length := by rw [hq.len]; exact hk
  have hw := h1.each k hk
  rw [show ([] : List Int) = (fun S : List Th => S.map Th.id) [] from rfl, getD_map _ _ _ _ hkS, hS] at hw
  rcases hw with ⟨_, hw⟩ | ⟨g, off, c, cur, hv, hg, hlc, hcm, hsz, hcell⟩
  · simp at hw
  · simp only [List.map_cons, List.length_cons, List.length_map] at hv hlc hcell
    have hrow := h1.row
    have hrk : W1.cell? ⟨L.rb, k, none⟩ = some (.slice (some ⟨g, off, none⟩) (rest.length + 1) c) := by
      rw [hrow.cellAt k (by omega), ← hv]; simp [List.getD, show k < vs.length by omega]
    have hc0 : W1.cell? ⟨g, off, none⟩ = some (.int .i64 (gt ts 0).id) := by
      rw [cell_of_row W1 g off cur 3 (0, 0) hg]
      have := hcell 0 (by omega)
      simpa using this
    have hne : L.rb ≠ L.bm := fun e => by have a := h1.rB.2.1; have b := h1.rB.2.2.2; rw [e] at b; omega
    refine ⟨g, off, c, hv, hlc, by unfold maxLen at hcm; omega, hc0, hrk, hrow.frozenAt k, h1.cw, h1.cm, h1.fm, hne, fun j => ?_⟩
    have hwait : WaitAt W1 (.slice (some (if c = 1 then ⟨g, off, none⟩ else ⟨g, off + 1, none⟩)) rest.length (c - 1)) (rest.map Th.id) := by
      by_cases e1 : c = 1
      · rw [if_pos e1]
        have hr0 : rest = [] := List.eq_nil_of_length_eq_zero (by omega)
        subst hr0
        exact .inr ⟨g, off, c - 1, cur, by simp, hg, by simp, by omega, by omega, fun i hi => by simp at hi⟩
      · rw [if_neg e1]
        refine .inr ⟨g, off + 1, c - 1, cur, by simp, hg, by simp; omega, by omega, by omega, fun i hi => ?_⟩
        have hi' : i < rest.length := by simpa using hi
        have := hcell (i + 1) (by omega)
        rw [show off + 1 + i = off + (i + 1) from by omega, this]
        simp [List.getD]
    obtain ⟨R2, h2⟩ := h1.wait k hk (row := (vs.getD k undef).ownBlock) rfl (World.grownBy.refl W1 _) hwait (by rw [hv]; exact .inl (by split <;> rfl))
    have h3 := (h2.count (m : Int)).chg ((Chg.refl [] _).drewN j)
    have hl' : ts'.length = m := by have := hpop.length_eq; simp at this; omega
    have hmem : ∀ t, t ∈ ts' → t ∈ ts := fun t ht => hpop.mem_iff.1 (List.mem_cons_of_mem _ ht)
    have ht0 : gt ts 0 ∈ ts := hpop.mem_iff.1 List.mem_cons_self
    have hlt := hq.lt k hk (gt ts 0) (by rw [hS]; exact List.mem_cons_self)
    have hek := hes k hk
    rw [show ((Ss.map fun S => S.map Th.id).set k (rest.map Th.id)) = (Ss.set k rest).map fun S => S.map Th.id from by rw [List.map_set]] at h3
    have hbelow : ∀ v', Below B0 W (((W1.setCell ⟨L.rb, k, none⟩ v').setCell ⟨L.bm, 0, none⟩ (.int .i64 m)).drewN j) := fun v' => by
      have c4 : Chg [L.F.fb, qb, L.rb, L.bm] W (((W1.setCell ⟨L.rb, k, none⟩ v').setCell ⟨L.bm, 0, none⟩ (.int .i64 m)).drewN j) :=
        (((hc.mono (fun x hx => .inl (by simp at hx; rcases hx with e | e <;> simp [e]))).setCell (.inl (by simp)) _).setCell (.inl (by simp)) _).drewN j
      have r1 := hm.r0 L.F.fb (by rw [hm.rF.1]; omega)
      have r2 := hm.r0 qb (by rw [hm.rQ qb rfl]; omega)
      have r3 := hm.r0 L.rb (by rw [hm.rB.2.2.2]; omega)
      have r4 := hm.r0 L.bm (by rw [hm.rB.2.1]; omega)
      exact c4.below (by omega) (fun x hx => by simp at hx; rcases hx with e | e | e | e <;> subst e <;> omega)
    exact ⟨⟨R2, _, _, es, (gt ts 0).st, ts', Ss.set k rest, h3, hl', hq', fun t ht => hpos t (hmem t ht), hpos _ ht0, by omega, hes⟩, hbelow _⟩

set_option maxHeartbeats 800000 in
theorem next_st (B0 : Nat) (L : WLay) (ws : List Int) (N m : Nat) (W : World) (h : St B0 L ws N (m + 1) W) (h64 : m < 64) (h8 : ws.length ≤ 8) :
    Calls Try.prog 10 #[.pointer (some ⟨L.bf, 0, none⟩), .pointer (some ⟨L.bm, 0, none⟩), .pointer (some ⟨L.bw, 0, none⟩)] W fun e W' => e = .returned (.bool true) ∧ St B0 L ws N m W' ∧ Below B0 W W' := by
  obtain ⟨R, qv, vs, es, now, ts, Ss, hm, hlen, hq, hpos, hn0, hn1, hes⟩ := h.ex
  clear h
  have hcf := hm.cf
  obtain ⟨qb, cap, rfl⟩ : ∃ qb cap, qv = .slice (some ⟨qb, 0, none⟩) (m + 1) cap := by
    rcases hm.fair.line.owns.2 with ⟨_, h0⟩ | ⟨g, cap, cur, h', _⟩
    · omega
    · exact ⟨g, cap, by rw [h', hlen]⟩
  have CN := Lib.hid (next_some L.F ws es now qb cap m ts W hm.fair hm.heap h64)
  have HM := Lib.hid hm
  have HL := Lib.hid hlen
  have HQ := Lib.hid hq
  clear hm hlen hq
  go_enter Try.func10, Try.ntmps10
  go_wp2_with fail
  refine CN.out.mono ?_
  rintro e W1 ⟨rfl, ts', hf, hpop, hh, hc⟩
  obtain ⟨k, rest, hk, hfl, hS, hq'⟩ := HQ.out.next HM.out.heap (by have := HL.out; omega) hpop
  obtain ⟨g, off, c, hv, hlc, hcm, hc0, hrk, hfr, hcw, hcm1, hfm, hne, hfin⟩ := next_fin B0 L ws N m W W1 R qb cap vs es now ts ts' Ss k rest HM.out HL.out hpos hes HQ.out hf hpop hh hc hk hfl hS hq'
  rw [hfl]
  have HFIN := Lib.hid hfin
  clear hf hpop hh hc hS hq' hfin hv CN HM HL HQ hpos hes hcf
  generalize hid : (gt ts 0).id = id at *
  clear hid hfl
  have g1 : decide ((k : Int) < 0) = false := decide_eq_false (by omega)
  have g2 : decide (ws.length ≤ k) = false := decide_eq_false (by omega)
  have g3 : (((rest.length : Int) + 1) == 0) = false := by simp; omega
  have g4 : (id != id) = false := by simp
  generalize hwl : ws.length = nf at *
  clear hwl
  by_cases e1 : c = 1
  · subst e1
    have hr0 : rest.length = 0 := by omega
    have HF1 := HFIN.out
    rw [if_pos rfl] at HF1
    have HF2 := Lib.hid HF1
    clear HF1 HFIN
    generalize rest.length = rl at *
    subst hr0
    go_wp2_with fail
    go_region
    all_goals go_wp2_with fail
    all_goals go_ret
    all_goals (refine ⟨rfl, ?_⟩)
    all_goals exact HF2.out 1
  · have HF1 := HFIN.out
    rw [if_neg e1] at HF1
    have HF2 := Lib.hid HF1
    clear HF1 HFIN
    have hc1 : ¬ c = 1 := e1
    clear e1
    go_wp2_with fail
    go_region
    all_goals go_wp2_with fail
    all_goals go_ret
    all_goals (refine ⟨rfl, ?_⟩)
    all_goals exact HF2.out 1
end Go.Proofs.Ytdpkplnffemmgaa
