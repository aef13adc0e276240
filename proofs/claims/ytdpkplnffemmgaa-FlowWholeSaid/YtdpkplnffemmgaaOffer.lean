/- THE WALKS of Offer, Next and Waits. Conditions: a queue of flows lies there; nothing in it is so late that a sum would wrap. -/
import Derived.Test.YtdpkplnffemmgaaNew
namespace Go.Proofs.Ytdpkplnffemmgaa
open Go.RowKit
theorem waits_any (F : FB) (ws es : List Int) (now : Int) (qv : Value) (ts : List Th) (w : World) (h : FairAt w F ws es now qv ts) :
   Calls Try.prog 11 #[.pointer (some ⟨F.fb, 0, none⟩)] w fun e w' => e = .returned (.int .i64 ts.length) ∧ w = w' := by
  have hc := h.line.cell
  obtain ⟨a, cap, rfl⟩ : ∃ a cap, qv = .slice a ts.length cap := by
    rcases h.line.owns.2 with ⟨rfl, h0⟩ | ⟨g, cap, cur, rfl, _⟩
    · exact ⟨none, 0, by rw [h0]⟩
    · exact ⟨_, cap, rfl⟩
  go_enter Try.func11, Try.ntmps11
  go_wp2
  go_ret
  exact ⟨rfl, rfl⟩
theorem offer_none (F : FB) (ws es : List Int) (now : Int) (qv : Value) (ts : List Th) (fl id cost : Int) (w : World) (h : FairAt w F ws es now qv ts) (hf : fl < 0 ∨ (ws.length : Int) ≤ fl) :
   Calls Try.prog 7 #[.pointer (some ⟨F.fb, 0, none⟩), .int .i64 fl, .int .i64 id, .int .i64 cost] w fun e w' => e = .returned (.int .i64 7) ∧ w = w' := by
  have hc := h.wcell
  clear h
  generalize ws.length = n at *
  by_cases h0 : fl < 0
  · have h1 : decide (fl < 0) = true := by simpa using h0
    go_enter Try.func7, Try.ntmps7
    go_wp2
    go_ret
    exact ⟨rfl, rfl⟩
  · have h1 : decide (fl < 0) = false := by simpa using h0
    have h2 : decide ((n : Int) ≤ fl) = true := by simp; omega
    go_enter Try.func7, Try.ntmps7
    go_wp2
    go_ret
    exact ⟨rfl, rfl⟩
theorem offer_arg (F : FB) (ws es : List Int) (now : Int) (qv : Value) (ts : List Th) (fl : Nat) (id cost : Int) (w : World) (h : FairAt w F ws es now qv ts) (hf : fl < ws.length) (hcost : cost < 1 ∨ 1000 < cost) :
   Calls Try.prog 7 #[.pointer (some ⟨F.fb, 0, none⟩), .int .i64 fl, .int .i64 id, .int .i64 cost] w fun e w' => e = .returned (.int .i64 1) ∧ w = w' := by
  have hc := h.wcell
  clear h
  generalize ws.length = n at *
  have h1 : decide ((fl : Int) < 0) = false := decide_eq_false (by omega)
  have h2 : decide (n ≤ fl) = false := decide_eq_false (by omega)
  by_cases h0 : cost < 1
  · have h3 : decide (cost < 1) = true := by simpa using h0
    go_enter Try.func7, Try.ntmps7
    go_wp2
    go_ret
    exact ⟨rfl, rfl⟩
  · have h3 : decide (cost < 1) = false := by simpa using h0
    have h4 : decide (1000 < cost) = true := by simp; omega
    go_enter Try.func7, Try.ntmps7
    go_wp2
    go_ret
    exact ⟨rfl, rfl⟩
theorem offer_full (F : FB) (ws es : List Int) (now : Int) (qv : Value) (ts : List Th) (fl : Nat) (id cost : Int) (w : World) (h : FairAt w F ws es now qv ts) (hf : fl < ws.length) (hc1 : 1 ≤ cost) (hc2 : cost ≤ 1000) (h64 : ts.length = 64) :
   Calls Try.prog 7 #[.pointer (some ⟨F.fb, 0, none⟩), .int .i64 fl, .int .i64 id, .int .i64 cost] w fun e w' => e = .returned (.int .i64 22) ∧ w = w' := by
  have hc := h.wcell
  have hl := h.line.cell
  obtain ⟨a, cap, rfl⟩ : ∃ a cap, qv = .slice a 64 cap := by
    rcases h.line.owns.2 with ⟨rfl, h0⟩ | ⟨g, cap, cur, rfl, _⟩
    · omega
    · exact ⟨_, cap, by rw [h64]⟩
  clear h h64
  generalize ws.length = n at *
  have h1 : decide ((fl : Int) < 0) = false := decide_eq_false (by omega)
  have h2 : decide (n ≤ fl) = false := decide_eq_false (by omega)
  have h3 : decide (cost < 1) = false := by simp; omega
  have h4 : decide (1000 < cost) = false := by simp; omega
  go_enter Try.func7, Try.ntmps7
  go_wp2
  go_ret
  exact ⟨rfl, rfl⟩

def Offered (F : FB) (ws es : List Int) (now : Int) (qv : Value) (ts : List Th) (fl : Nat) (id cost : Int) (w : World) (e : Ending) (w' : World) : Prop :=
  e = .returned (.int .i64 0) ∧ ∃ qv' ts', FairAt w' F ws (es.set fl (max (es.getD fl 0) now + 2520 * cost / ws.getD fl 0)) now qv' ts' ∧ ts'.Perm (ts ++ [⟨id, fl, max (es.getD fl 0) now⟩]) ∧ HeapN ts' ts'.length ∧
    Chg (F.fb :: F.eb :: qv.ownBlock.toList) w w' ∧ Lies w qv qv'
theorem offer_end (F : FB) (ws es : List Int) (now : Int) (qv : Value) (ts : List Th) (fl : Nat) (id cost : Int) (w W : World) (h : FairAt w F ws es now qv ts) (hf : fl < ws.length) (st : Int) (hst : max (es.getD fl 0) now = st)
   (e : Ending) (w' : World) (k : Nat) (hW : W = ((w.drewN k).setCell ⟨F.eb, fl, none⟩ (.int .i64 (st + 2520 * cost / ws.getD fl 0)))) (hp : HPushed F.fb 3 qv ts ⟨id, fl, st⟩ W e w') :
   e = .returned (.tuple #[]) ∧ Offered F ws es now qv ts fl id cost w (.returned (.int .i64 0)) w' := by
  subst hW
  obtain ⟨rfl, hoth, qv', ts', hl, hpm, hh, ⟨hc, hlies⟩, hne⟩ := hp
  have h1 : Chg [F.eb] w ((w.drewN k).setCell ⟨F.eb, fl, none⟩ (.int .i64 (st + 2520 * cost / ws.getD fl 0))) := (((Chg.refl _ w).drewN k).setCell (.inl (by simp)) _)
  have ho := (World.ownsRow.stored h.erow fl (.int .i64 (st + 2520 * cost / ws.getD fl 0))).1
  have ho' : (((w.drewN k).setCell ⟨F.eb, fl, none⟩ (.int .i64 (st + 2520 * cost / ws.getD fl 0)))).ownsRow 0 3 1 (.slice (some ⟨F.eb, 0, none⟩) ws.length F.ec) ws.length ((es.set fl (st + 2520 * cost / ws.getD fl 0)).map (Value.int .i64)) := by
    rw [List.map_set]; exact ho
  have hnb : ∀ k, qv.ownBlock = some k → k ≠ F.fb ∧ k ≠ F.wb ∧ k ≠ F.eb := fun k hk => ⟨h.line.apart k hk, h.qw k hk⟩
  have hc2 : ∀ x, x ∈ (F.fb :: qv.ownBlock.toList) → x = F.fb ∨ qv.ownBlock = some x := by
    intro x hx
    simp at hx
    rcases hx with hx | hx
    · exact .inl hx
    · exact .inr hx
  have hcw : F.wb ∉ (F.fb :: qv.ownBlock.toList) := fun hm => by rcases hc2 _ hm with e | e; exact h.fw e.symm; exact (hnb _ e).2.1 rfl
  have hce : F.eb ∉ (F.fb :: qv.ownBlock.toList) := fun hm => by rcases hc2 _ hm with e | e; exact h.fe e.symm; exact (hnb _ e).2.2 rfl
  have hfe : F.fb ∉ [F.eb] := by simpa using h.fe
  have hlw : ∀ k, qv'.ownBlock = some k → k ≠ F.wb ∧ k ≠ F.eb := by
    intro k hk
    rcases hlies with h' | h' | ⟨g, h', hge⟩
    · exact h.qw k (h' ▸ hk)
    · rw [h'] at hk; cases hk
    · rw [h'] at hk; cases hk
      have := h.wbl; have := h.ebl; have := h1.size
      omega
  refine ⟨rfl, rfl, qv', ts', ?_, by rw [hst]; exact hpm, hh, ?_, ?_⟩
  · rw [hst]
    refine ⟨?_, ?_, ?_, ?_, hl, hc.row (h1.row h.wrow ?_) ?_, hc.row ho' ?_, h.few, h.fw, h.fe, h.we, hlw⟩
    · rw [(hoth 0 (by omega)).1]; exact h1.cell h.wcell hfe
    · rw [(hoth 1 (by omega)).1]; exact h1.cell h.ecell hfe
    · rw [(hoth 2 (by omega)).1]; exact h1.cell h.ncell hfe
    · rw [(hoth 2 (by omega)).2]; exact h1.frz h.nfroz h.fbl hfe
    · intro k hk; simp [Value.ownBlock] at hk; subst hk; simpa using h.we
    · intro k hk; simp [Value.ownBlock] at hk; subst hk; exact hcw
    · intro k hk; simp [Value.ownBlock] at hk; subst hk; exact hce
  · exact (h1.mono (fun x hx => by simp at hx; subst hx; simp)).trans' hc (fun x hx => by
      rcases hc2 x hx with e | e
      · subst e; simp
      · left; simp [e])
  · rcases hlies with h' | h' | ⟨g, h', hge⟩
    · exact .inl h'
    · exact .inr (.inl h')
    · exact .inr (.inr ⟨g, h', Nat.le_trans h1.size hge⟩)
set_option maxHeartbeats 800000 in
theorem offer_ok (F : FB) (ws es : List Int) (now : Int) (qv : Value) (ts : List Th) (fl : Nat) (id cost : Int) (w : World) (h : FairAt w F ws es now qv ts) (hf : fl < ws.length) (hc1 : 1 ≤ cost) (hc2 : cost ≤ 1000) (h64 : ts.length < 64)
   (hh : HeapN ts ts.length) (hw1 : 1 ≤ ws.getD fl 0) (hw2 : ws.getD fl 0 ≤ 10) (he0 : 0 ≤ es.getD fl 0) (he1 : es.getD fl 0 ≤ 9223372036852255807) (hn0 : 0 ≤ now) (hn1 : now ≤ 9223372036852255807) :
   Calls Try.prog 7 #[.pointer (some ⟨F.fb, 0, none⟩), .int .i64 fl, .int .i64 id, .int .i64 cost] w (Offered F ws es now qv ts fl id cost w) := by
  have hwc := h.wcell
  have hec := h.ecell
  have hnc := h.ncell
  have hlc := h.line.cell
  have hcw : w.cell? ⟨F.wb, fl, none⟩ = some (.int .i64 (ws.getD fl 0)) := by
    rw [h.wrow.cellAt fl (by omega)]; simp [List.getD, hf]
  have hce : w.cell? ⟨F.eb, fl, none⟩ = some (.int .i64 (es.getD fl 0)) := by
    rw [h.erow.cellAt fl (by omega)]; have := h.elen; simp [List.getD, show fl < es.length by omega]
  have hfe := h.erow.frozenAt fl
  obtain ⟨a, cap, hqv⟩ : ∃ a cap, qv = .slice a ts.length cap := by
    rcases h.line.owns.2 with ⟨rfl, h0⟩ | ⟨g, cap, cur, rfl, _⟩
    · exact ⟨none, 0, by rw [h0]⟩
    · exact ⟨_, cap, rfl⟩
  subst hqv
  have hwcap : ws.length ≤ F.wc ∧ F.wc ≤ 9223372036854775807 := by
    rcases h.wrow.2 with ⟨h', _⟩ | ⟨g', cap', cur, h', _, hg, a, b, _⟩
    · simp at h'
    · simp at h'; obtain ⟨_, rfl⟩ := h'; unfold maxLen at b; omega
  have hecap : ws.length ≤ F.ec ∧ F.ec ≤ 9223372036854775807 := by
    rcases h.erow.2 with ⟨h', _⟩ | ⟨g', cap', cur, h', _, hg, a, b, _⟩
    · simp at h'
    · simp at h'; obtain ⟨_, rfl⟩ := h'; unfold maxLen at b; omega
  have H := Lib.hid h
  clear h
  generalize hwn : ws.getD fl 0 = wt at *
  generalize hen : es.getD fl 0 = en at *
  have HWN := Lib.hid hwn
  have HEN := Lib.hid hen
  clear hwn hen
  have h1 : decide ((fl : Int) < 0) = false := decide_eq_false (by omega)
  have h2 : decide (ws.length ≤ fl) = false := decide_eq_false (by omega)
  have h3 : decide (cost < 1) = false := decide_eq_false (by omega)
  have h4 : decide (1000 < cost) = false := decide_eq_false (by omega)
  have h5 : ((ts.length : Int) == 64) = false := by simp; omega
  have hq0 : 0 ≤ 2520 * cost / wt := Int.ediv_nonneg (by omega) (by omega)
  have hq1 : 2520 * cost / wt ≤ 2520000 := by
    have := Int.ediv_le_self (a := 2520 * cost) wt (by omega)
    omega
  have CH := Lib.hid (fun (st : Int) (W : World) (hW : Chg [F.eb] w W) => hpush F.fb 3 (.slice a ts.length cap) ts ⟨id, fl, st⟩ W (H.out.line.chg hW (by simpa using H.out.fe) (fun k hk => by simpa using (H.out.qw k hk).2)) hh h64)
  have HE := Lib.hid (fun st hst W => offer_end F ws es now (.slice a ts.length cap) ts fl id cost w W H.out hf st hst)
  rw [HEN.out, HWN.out] at HE
  clear hh
  by_cases hmx : now ≤ en
  · have HX := Lib.hid (show max en now = en from by omega)
    go_enter Try.func7, Try.ntmps7
    go_wp2_with fail
    go_quiet (fail)
    go_wp2_with fail
    go_region
    all_goals go_wp2_with fail
    refine (CH.out en _ ((((Chg.refl _ w).drewN _).setCell (.inl (by simp)) _))).mono ?_
    intro e w2 hp
    obtain ⟨he, ho⟩ := HE.out en HX.out _ e w2 _ rfl hp
    subst he
    have HO := Lib.hid ho
    clear ho hp
    go_wp2_with fail
    go_ret
    exact HO.out
  · have HX := Lib.hid (show max en now = now from by omega)
    have hmx' : en < now := by omega
    clear hmx
    go_enter Try.func7, Try.ntmps7
    go_wp2_with fail
    go_quiet (fail)
    go_wp2_with fail
    go_region
    all_goals go_wp2_with fail
    refine (CH.out now _ ((((Chg.refl _ w).drewN _).setCell (.inl (by simp)) _))).mono ?_
    intro e w2 hp
    obtain ⟨he, ho⟩ := HE.out now HX.out _ e w2 _ rfl hp
    subst he
    have HO := Lib.hid ho
    clear ho hp
    go_wp2_with fail
    go_ret
    exact HO.out

theorem next_none (F : FB) (ws es : List Int) (now : Int) (qv : Value) (w : World) (h : FairAt w F ws es now qv []) :
   Calls Try.prog 9 #[.pointer (some ⟨F.fb, 0, none⟩)] w fun e w' => e = .returned (.tuple #[.int .i64 0, .int .i64 0, .bool false]) ∧ w = w' := by
  have hc := h.line.cell
  obtain ⟨a, cap, rfl⟩ : ∃ a cap, qv = .slice a 0 cap := by
    rcases h.line.owns.2 with ⟨rfl, h0⟩ | ⟨g, cap, cur, rfl, _⟩
    · exact ⟨none, 0, rfl⟩
    · exact ⟨_, cap, rfl⟩
  clear h
  go_enter Try.func9, Try.ntmps9
  go_wp2_with fail
  go_ret3
  exact ⟨rfl, rfl⟩

def Nexted (F : FB) (ws es : List Int) (qb cap m : Nat) (ts : List Th) (w : World) (e : Ending) (w' : World) : Prop :=
  e = .returned (.tuple #[.int .i64 (gt ts 0).id, .int .i64 (gt ts 0).fl, .bool true]) ∧ ∃ ts', FairAt w' F ws es (gt ts 0).st (.slice (some ⟨qb, 0, none⟩) m cap) ts' ∧ (gt ts 0 :: ts').Perm ts ∧ HeapN ts' ts'.length ∧ Chg [F.fb, qb] w w'
theorem next_end (F : FB) (ws es : List Int) (now : Int) (qb cap m : Nat) (ts : List Th) (w w2 : World) (O : Obj) (h : FairAt w F ws es now (.slice (some ⟨qb, 0, none⟩) (m + 1) cap) ts)
   (hoth : Oth F.fb 3 (w.alloc O) w2) (ts' : List Th) (hl : LineAt w2 F.fb 3 (.slice (some ⟨qb, 0, none⟩) m cap) ts') (hpm : (gt ts 0 :: ts').Perm ts) (hhp : HeapN ts' ts'.length) (hc : Chg [F.fb, qb] (w.alloc O) w2) (k : Nat) :
   Nexted F ws es qb cap m ts w (.returned (.tuple #[.int .i64 (gt ts 0).id, .int .i64 (gt ts 0).fl, .bool true])) ((w2.setCell ⟨F.fb, 2, none⟩ (.int .i64 (gt ts 0).st)).drewN k) := by
  obtain ⟨hn, hq, hne⟩ := h.line.queue
  have h0 : Chg [] w (w.alloc O) := (Chg.refl _ _).alloc O
  have hq' := h.qw qb rfl
  have hx : Chg [F.fb] w2 ((w2.setCell ⟨F.fb, 2, none⟩ (.int .i64 (gt ts 0).st)).drewN k) := ((Chg.refl _ _).setCell (.inl (by simp)) _).drewN k
  have h02 : Chg [F.fb, qb] w w2 := (h0.mono (fun x hx => by simp at hx)).trans hc
  have ha : Chg [F.fb, qb] w ((w2.setCell ⟨F.fb, 2, none⟩ (.int .i64 (gt ts 0).st)).drewN k) := h02.trans (hx.mono (fun x hx => .inl (by simp at hx; simp [hx])))
  have hcell : ∀ o, o ≠ 3 → w2.cell? ⟨F.fb, o, none⟩ = w.cell? ⟨F.fb, o, none⟩ := fun o ho => (hoth o ho).1.trans (World.cell?_of_block (h0.block F.fb h.fbl (by simp)))
  have hfroz : ∀ o, o ≠ 3 → w2.frozen? ⟨F.fb, o, none⟩ = w.frozen? ⟨F.fb, o, none⟩ := fun o ho => (hoth o ho).2.trans (World.frozen?_of_block (h0.block F.fb h.fbl (by simp)))
  have hoth2 := Oth.setCell F.fb 2 w2 (.int .i64 (gt ts 0).st)
  have n2 : w2.cell? ⟨F.fb, 2, none⟩ = some (.int .i64 now) := by rw [hcell 2 (by omega)]; exact h.ncell
  refine ⟨rfl, ts', ⟨?_, ?_, ?_, ?_, ⟨?_, ?_, ?_, hl.apart⟩, ?_, ?_, h.few, h.fw, h.fe, h.we, ?_⟩, hpm, hhp, ha⟩
  · rw [World.cell?_drewN, (hoth2 0 (by omega)).1, hcell 0 (by omega)]; exact h.wcell
  · rw [World.cell?_drewN, (hoth2 1 (by omega)).1, hcell 1 (by omega)]; exact h.ecell
  · rw [World.cell?_drewN]; exact World.cell?_setCell_same _ _ _ n2
  · show (w2.setCell ⟨F.fb, 2, none⟩ (.int .i64 (gt ts 0).st)).frozen? _ = _
    rw [World.frozen?_setCell, hfroz 2 (by omega)]; exact h.nfroz
  · rw [World.cell?_drewN, (hoth2 3 (by omega)).1]; exact hl.cell
  · show (w2.setCell ⟨F.fb, 2, none⟩ (.int .i64 (gt ts 0).st)).frozen? _ = _
    rw [World.frozen?_setCell]; exact hl.frozen
  · exact hx.row hl.owns (fun k hk => by have := hl.apart k hk; simpa using this)
  · exact ha.row h.wrow (fun k hk => by simp [Value.ownBlock] at hk; subst hk; simp; exact ⟨fun e => h.fw e.symm, fun e => hq'.1 e.symm⟩)
  · exact ha.row h.erow (fun k hk => by simp [Value.ownBlock] at hk; subst hk; simp; exact ⟨fun e => h.fe e.symm, fun e => hq'.2 e.symm⟩)
  · intro k hk; simp [Value.ownBlock] at hk; subst hk; exact hq'
set_option maxHeartbeats 800000 in
theorem next_some (F : FB) (ws es : List Int) (now : Int) (qb cap m : Nat) (ts : List Th) (w : World) (h : FairAt w F ws es now (.slice (some ⟨qb, 0, none⟩) (m + 1) cap) ts) (hh : HeapN ts ts.length) (h64 : m < 64) :
   Calls Try.prog 9 #[.pointer (some ⟨F.fb, 0, none⟩)] w (Nexted F ws es qb cap m ts w) := by
  obtain ⟨hn, hq, hne⟩ := h.line.queue
  have hlc := h.line.cell
  have hqb := hq.cap_le.2.2
  obtain ⟨c0, c1, c2⟩ := hq.cells 0 (by omega)
  obtain ⟨hn1, hm1, _⟩ := hq.cap_le
  unfold maxLen at hm1
  have hcap : cap ≤ 9223372036854775807 := by omega
  have hmc : m + 1 ≤ cap := by omega
  have HN := Lib.hid hn
  have H := Lib.hid h
  have hhm : HeapN ts (m + 1) := by rw [hn]; exact hh
  have hfb := h.fbl
  have CP := Lib.hid (fun (W : World) (hW : Chg [] w W) => hpop F.fb 3 qb cap m ts W (H.out.line.chg hW (by simp) (by simp)) hhm h64)
  clear h hq hn hn1 hm1 hh hhm
  simp only [Nat.zero_mul, Nat.zero_add] at c0 c1 c2
  generalize hgt : gt ts 0 = t at *
  have HGT := Lib.hid hgt
  clear hgt
  go_enter Try.func9, Try.ntmps9
  go_wp2_with fail
  refine (CP.out _ ((Chg.refl [] w).alloc _)).mono ?_
  rintro e w2 ⟨⟨v, rfl⟩, hoth, ts', hl, hpm, hhp, hc⟩
  have d0 := hc.cell (p := ⟨w.heap.size, 0, none⟩) (v := .int .i64 t.id) (by simp) (by simp; omega)
  have d1 := hc.cell (p := ⟨w.heap.size, 1, none⟩) (v := .int .i64 t.fl) (by simp) (by simp; omega)
  have d2 := hc.cell (p := ⟨w.heap.size, 2, none⟩) (v := .int .i64 t.st) (by simp) (by simp; omega)
  have n2 : w2.cell? ⟨F.fb, 2, none⟩ = some (.int .i64 now) := by
    rw [(hoth 2 (by omega)).1]; exact ((Chg.refl [] w).alloc _).cell H.out.ncell (by simp)
  have f2 : w2.frozen? ⟨F.fb, 2, none⟩ = false := by
    rw [(hoth 2 (by omega)).2]; exact ((Chg.refl [] w).alloc _).frz H.out.nfroz hfb (by simp)
  have HE := Lib.hid (fun k => next_end F ws es now qb cap m ts w w2 _ H.out hoth ts' hl hpm hhp hc k)
  rw [HGT.out] at HE
  clear hoth hl hpm hhp hc
  go_wp2_with fail
  go_quiet (fail)
  go_wp2_with fail
  go_ret3
  exact HE.out _
end Go.Proofs.Ytdpkplnffemmgaa
