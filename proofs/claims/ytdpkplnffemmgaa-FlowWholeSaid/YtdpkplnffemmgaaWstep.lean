/- THE STEPS of FlowWhole in terms of its state: Offer in its five ways, Waits. Conditions: no sum would wrap (N offers so far). -/
import Derived.Test.YtdpkplnffemmgaaWnext
namespace Go.Proofs.Ytdpkplnffemmgaa
open Go.RowKit

theorem St.chg {B0 : Nat} {L : WLay} {ws : List Int} {N m : Nat} {W W' : World} (h : St B0 L ws N m W) (hc : Chg [] W W') : St B0 L ws N m W' := by
  obtain ⟨R, qv, vs, es, now, ts, Ss, hm, r⟩ := h.ex
  exact ⟨R, qv, vs, es, now, ts, Ss, hm.chg hc, r⟩
theorem St.boxes {B0 : Nat} {L : WLay} {ws : List Int} {N m : Nat} {W : World} (h : St B0 L ws N m W) :
    W.cell? ⟨L.bf, 0, none⟩ = some (.pointer (some ⟨L.F.fb, 0, none⟩)) ∧ W.cell? ⟨L.bm, 0, none⟩ = some (.int .i64 m) ∧ W.cell? ⟨L.bw, 0, none⟩ = some (.slice (some ⟨L.rb, 0, none⟩) ws.length ws.length) := by
  obtain ⟨R, qv, vs, es, now, ts, Ss, hm, r⟩ := h.ex
  exact ⟨hm.cf, hm.cm, hm.cw⟩
theorem St.more {B0 : Nat} {L : WLay} {ws : List Int} {N N' m : Nat} {W : World} (h : St B0 L ws N m W) (hN : N ≤ N') : St B0 L ws N' m W := by
  obtain ⟨R, qv, vs, es, now, ts, Ss, hm, h1, h2, h3, h4, h5, h6⟩ := h.ex
  exact ⟨R, qv, vs, es, now, ts, Ss, hm, h1, h2, h3, h4, by omega, fun k hk => by have := h6 k hk; omega⟩

theorem waits_st {B0 : Nat} {L : WLay} {ws : List Int} {N m : Nat} {W : World} (h : St B0 L ws N m W) :
    Calls Try.prog 11 #[.pointer (some ⟨L.F.fb, 0, none⟩)] W fun e W' => e = .returned (.int .i64 m) ∧ W = W' := by
  obtain ⟨R, qv, vs, es, now, ts, Ss, hm, h1, _⟩ := h.ex
  have := waits_any L.F ws es now qv ts W hm.fair
  rw [h1] at this
  exact this

theorem offer_st_none {B0 : Nat} {L : WLay} {ws : List Int} {N m : Nat} {W : World} (h : St B0 L ws N m W) (fl id cost : Int) (hf : fl < 0 ∨ (ws.length : Int) ≤ fl) :
    Calls Try.prog 7 #[.pointer (some ⟨L.F.fb, 0, none⟩), .int .i64 fl, .int .i64 id, .int .i64 cost] W fun e W' => e = .returned (.int .i64 7) ∧ W = W' := by
  obtain ⟨R, qv, vs, es, now, ts, Ss, hm, h1, _⟩ := h.ex
  exact offer_none L.F ws es now qv ts fl id cost W hm.fair hf
theorem offer_st_arg {B0 : Nat} {L : WLay} {ws : List Int} {N m : Nat} {W : World} (h : St B0 L ws N m W) (k : Nat) (id cost : Int) (hk : k < ws.length) (hc : cost < 1 ∨ 1000 < cost) :
    Calls Try.prog 7 #[.pointer (some ⟨L.F.fb, 0, none⟩), .int .i64 k, .int .i64 id, .int .i64 cost] W fun e W' => e = .returned (.int .i64 1) ∧ W = W' := by
  obtain ⟨R, qv, vs, es, now, ts, Ss, hm, h1, _⟩ := h.ex
  exact offer_arg L.F ws es now qv ts k id cost W hm.fair hk hc
theorem offer_st_full {B0 : Nat} {L : WLay} {ws : List Int} {N : Nat} {W : World} (h : St B0 L ws N 64 W) (k : Nat) (id cost : Int) (hk : k < ws.length) (h0 : 1 ≤ cost) (h1 : cost ≤ 1000) :
    Calls Try.prog 7 #[.pointer (some ⟨L.F.fb, 0, none⟩), .int .i64 k, .int .i64 id, .int .i64 cost] W fun e W' => e = .returned (.int .i64 22) ∧ W = W' := by
  obtain ⟨R, qv, vs, es, now, ts, Ss, hm, hl, _⟩ := h.ex
  exact offer_full L.F ws es now qv ts k id cost W hm.fair hk h0 h1 hl

/-- behind an Offer that was taken: what the walk reads, and what it comes to. Bx: the block of the step itself. -/
structure OSt (B0 : Nat) (L : WLay) (ws : List Int) (N m k : Nat) (id : Int) (Bx : Nat) (W W1 : World) : Prop where
  kept : ∀ o, W1.cell? ⟨Bx, o, none⟩ = W.cell? ⟨Bx, o, none⟩
  size : W.heap.size ≤ W1.heap.size
  below : Below B0 W W1
  cw : W1.cell? ⟨L.bw, 0, none⟩ = some (.slice (some ⟨L.rb, 0, none⟩) ws.length ws.length)
  ex : ∃ vk ids, W1.cell? ⟨L.rb, k, none⟩ = some vk ∧ WaitAt W1 vk ids ∧ ids.length ≤ 1000 ∧
    ∀ W2 W3 v', Chg [] W1 W2 → W2.grownBy W3 vk.ownBlock → WaitAt W3 v' (ids ++ [id]) → Lies W2 vk v' →
      (∀ o, W3.cell? ⟨Bx, o, none⟩ = W2.cell? ⟨Bx, o, none⟩) ∧ W3.cell? ⟨L.bw, 0, none⟩ = some (.slice (some ⟨L.rb, 0, none⟩) ws.length ws.length) ∧ W3.cell? ⟨L.rb, k, none⟩ = some vk ∧ W3.frozen? ⟨L.rb, k, none⟩ = false ∧
      W3.cell? ⟨L.bm, 0, none⟩ = some (.int .i64 m) ∧ W3.frozen? ⟨L.bm, 0, none⟩ = false ∧ L.rb ≠ L.bm ∧
      St B0 L ws (N + 1) (m + 1) ((W3.setCell ⟨L.rb, k, none⟩ v').setCell ⟨L.bm, 0, none⟩ (.int .i64 ((m : Int) + 1))) ∧ Below B0 W2 ((W3.setCell ⟨L.rb, k, none⟩ v').setCell ⟨L.bm, 0, none⟩ (.int .i64 ((m : Int) + 1)))

theorem flatten_len {α : Type} (Ss : List (List α)) (k : Nat) (h : k < Ss.length) : (Ss.getD k []).length ≤ Ss.flatten.length := by
  rw [self_flatten Ss k h]; simp; omega

theorem offer_st_ok {B0 : Nat} {L : WLay} {ws : List Int} {N m : Nat} {w0 W : World} {O : Obj} (h : St B0 L ws N m w0) (hW : W = w0.alloc O) (hws : ws.all wOk = true) (h64 : m < 64) (k : Nat) (id cost : Int) (hk : k < ws.length) (h0 : 1 ≤ cost) (h1 : cost ≤ 1000) (hN : N ≤ 2199023255552) :
    Calls Try.prog 7 #[.pointer (some ⟨L.F.fb, 0, none⟩), .int .i64 k, .int .i64 id, .int .i64 cost] W fun e W' => e = .returned (.int .i64 0) ∧ OSt B0 L ws N m k id w0.heap.size W W' := by
  subst hW
  obtain ⟨R, qv, vs, es, now, ts, Ss, hm0, hl, hq, hpos, hn0, hn1, hes⟩ := h.ex
  have hm := hm0.chg ((Chg.refl [] w0).alloc O)
  have hwk : 1 ≤ ws.getD k 0 ∧ ws.getD k 0 ≤ 10 := by
    have hmem : ws.getD k 0 ∈ ws := by simp [List.getD, hk]
    have := List.all_eq_true.1 hws _ hmem
    generalize ws.getD k 0 = x at *
    simp [wOk] at this
    omega
  have hek := hes k hk
  refine (offer_ok L.F ws es now qv ts k id cost _ hm.fair hk h0 h1 (by omega) hm.heap hwk.1 hwk.2 hek.1 (by omega) hn0 (by omega)).mono ?_
  rintro e W1 ⟨rfl, qv', ts', hf', hp', hh', hch, hlies⟩
  have hd0 : 252 ≤ 2520 * cost / ws.getD k 0 := by
    rw [part_of _ cost hwk.1 hwk.2]
    have := parts _ hwk.1 hwk.2
    have h2 : (2520 / ws.getD k 0) * 1 ≤ (2520 / ws.getD k 0) * cost := Int.mul_le_mul_of_nonneg_left h0 (by omega)
    omega
  have hd1 : 2520 * cost / ws.getD k 0 ≤ 2520000 := by
    have := Int.ediv_le_self (a := 2520 * cost) (ws.getD k 0) (by omega)
    omega
  generalize hd : 2520 * cost / ws.getD k 0 = d at *
  generalize hst : max (es.getD k 0) now = st at *
  have hst0 : es.getD k 0 ≤ st ∧ 0 ≤ st ∧ st ≤ 2520000 * N := by omega
  have hq' := hq.offer k hk id st d hst0.1 (by omega) hp'
  have hrole : ∀ x, x ∈ (L.F.fb :: L.F.eb :: qv.ownBlock.toList) → R x = 1 := by
    intro x hx
    simp only [List.mem_cons, Option.mem_toList] at hx
    rcases hx with e | e | e
    · subst e; exact hm.rF.1
    · subst e; exact hm.rF.2.2
    · exact hm.rQ x e
  obtain ⟨R1, h1m⟩ := hm.queue hf' hh' hch hrole hlies
  have hkS : k < Ss.length := by rw [hq.len]; exact hk
  have hkE : k < es.length := by rw [hq.elen]; exact hk
  have hvl := h1m.vlen
  have hlen' : ts'.length = m + 1 := by rw [hp'.length_eq]; simp [hl]
  have hkept : ∀ o, W1.cell? ⟨w0.heap.size, o, none⟩ = (w0.alloc O).cell? ⟨w0.heap.size, o, none⟩ := by
    intro o
    refine World.cell?_of_block (w := w0.alloc O) (hch.block w0.heap.size (by simp) (fun hx => ?_))
    have := (hm0.r0 _ (by rw [hrole _ hx]; omega)).2
    omega
  have hrowk : W1.cell? ⟨L.rb, k, none⟩ = some (vs.getD k undef) := by
    rw [h1m.row.cellAt k (by omega)]; simp [List.getD, show k < vs.length by omega]
  have hwk' := h1m.each k hk
  rw [show ([] : List Int) = (fun S : List Th => S.map Th.id) [] from rfl, getD_map _ _ _ _ hkS] at hwk'
  have hbf := hm.r0 L.bf (by rw [hm.rB.1]; omega)
  have hbel1 : Below B0 (w0.alloc O) W1 := hch.below (by omega) (fun x hx => (hm.r0 x (by rw [hrole x hx]; omega)).1)
  refine ⟨rfl, hkept, hch.size, hbel1, h1m.cw, vs.getD k undef, (Ss.getD k []).map Th.id, hrowk, hwk', ?_, ?_⟩
  · have := flatten_len Ss k hkS
    have hpl := hq.perm.length_eq
    rw [List.length_map]
    omega
  · intro W2 W3 v' hc2 hg hw3 hl3
    have h2m := h1m.chg hc2
    have hc3 : Chg (vs.getD k undef).ownBlock.toList W2 W3 := (Chg.refl _ _).grown hg (fun x hx => .inl (by simp only [Option.mem_toList]; exact hx))
    have hnot : ∀ x, R1 x ≠ 6 + k → x ∉ (vs.getD k undef).ownBlock.toList := by
      intro x hx hmm
      simp only [Option.mem_toList] at hmm
      exact hx (h1m.rV k hk x hmm)
    have hne : L.rb ≠ L.bm := fun e => by have a := h1m.rB.2.1; have b := h1m.rB.2.2.2; rw [e] at b; omega
    obtain ⟨R2, h3m⟩ := h2m.wait k hk (row := (vs.getD k undef).ownBlock) rfl hg hw3 hl3
    have h4m := h3m.count ((m : Int) + 1)
    refine ⟨fun o => ?_, hc3.cell h2m.cw (hnot _ (by rw [h1m.rB.2.2.1]; omega)), hc3.cell (hc2.cell hrowk (by simp)) (hnot _ (by rw [h1m.rB.2.2.2]; omega)), ?_, hc3.cell h2m.cm (hnot _ (by rw [h1m.rB.2.1]; omega)),
      hc3.frz h2m.fm (World.block_lt_of_cell? W2 _ h2m.cm) (hnot _ (by rw [h1m.rB.2.1]; omega)), hne, ?_, ?_⟩
    · have hb : w0.heap.size < W2.heap.size := Nat.lt_of_lt_of_le (by simp) (Nat.le_trans hch.size hc2.size)
      refine World.cell?_of_block (w := W2) (hc3.block _ hb (fun hx => ?_))
      simp only [Option.mem_toList] at hx
      have h6 := hm.rV k hk w0.heap.size hx
      have := (hm0.r0 w0.heap.size (by rw [h6]; omega)).2
      omega
    · exact hc3.frz (h2m.row.frozenAt k) (h2m.row.lt L.rb rfl).2 (hnot _ (by rw [h1m.rB.2.2.2]; omega))
    · rw [show ((Ss.map fun S => S.map Th.id).set k ((Ss.getD k []).map Th.id ++ [id])) = (Ss.set k (Ss.getD k [] ++ [⟨id, k, st⟩])).map fun S => S.map Th.id from by rw [List.map_set]; simp] at h4m
      rw [show (m : Int) + 1 = ((m + 1 : Nat) : Int) from by omega] at h4m
      rw [show (m : Int) + 1 = ((m + 1 : Nat) : Int) from by omega]
      refine ⟨⟨R2, qv', vs.set k v', _, now, ts', Ss.set k (Ss.getD k [] ++ [⟨id, k, st⟩]), h4m, hlen', hq', ?_, hn0, by omega, ?_⟩⟩
      · intro t ht
        rcases List.mem_append.1 (hp'.mem_iff.1 ht) with ht | ht
        · exact hpos t ht
        · simp at ht; subst ht; exact hst0.2.1
      · intro j hj
        rw [getD_set _ _ _ _ _ hkE]
        split
        · omega
        · have := hes j hj; omega
    · have c5 : Chg (L.rb :: L.bm :: (vs.getD k undef).ownBlock.toList) W2 ((W3.setCell ⟨L.rb, k, none⟩ v').setCell ⟨L.bm, 0, none⟩ (.int .i64 ((m : Int) + 1))) :=
        ((hc3.mono (fun x hx => .inl (List.mem_cons_of_mem _ (List.mem_cons_of_mem _ hx)))).setCell (.inl (by simp)) _).setCell (.inl (by simp)) _
      have r3 := h2m.r0 L.rb (by rw [h2m.rB.2.2.2]; omega)
      have r4 := h2m.r0 L.bm (by rw [h2m.rB.2.1]; omega)
      refine c5.below (by omega) (fun x hx => ?_)
      simp only [List.mem_cons, Option.mem_toList] at hx
      rcases hx with e | e | e
      · subst e; exact r3.1
      · subst e; exact r4.1
      · exact (h2m.r0 x (by rw [h2m.rV k hk x e]; omega)).1
end Go.Proofs.Ytdpkplnffemmgaa
