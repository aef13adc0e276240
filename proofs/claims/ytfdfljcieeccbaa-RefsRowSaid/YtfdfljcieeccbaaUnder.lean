/- THE WALK of (refs.graph).under and refs.Under: who comes under somebody. Conditions: the cards hold in memory what they say. -/
import Derived.Test.YtfdfljcieeccbaaClosed
import Derived.BigRegion
import Derived.Deep.LoopGhost
namespace Go.Proofs.Ytfdfljcieeccbaa
open Go.RowKit Go.Sort Go.Maps
attribute [local go_sem] run_makeMap
attribute [local go_sem ↓ high] appWr_eq

/-- s comes under u. -/
def Desc (l : List Card) (u s : ByteArray) : Prop := ∀ S : ByteArray → Prop, (∀ x ∈ ownedBy l u, S x) → (∀ y, S y → ∀ x ∈ ownedBy l y, S x) → S s
theorem Desc.one {l : List Card} {u x : ByteArray} (h : x ∈ ownedBy l u) : Desc l u x := fun _ h1 _ => h1 x h
theorem Desc.step {l : List Card} {u y x : ByteArray} (h : Desc l u y) (hx : x ∈ ownedBy l y) : Desc l u x := fun S h1 h2 => h2 y (h S h1 h2) x hx
theorem Desc.trans {l : List Card} {u y x : ByteArray} (h : Desc l u y) (k : Desc l y x) : Desc l u x :=
  fun S h1 h2 => k S (fun z hz => h2 y (h S h1 h2) z hz) h2
theorem owned_there {l : List Card} {u x : ByteArray} (h : x ∈ ownedBy l u) : x ∈ uids l := by
  rw [mem_ownedBy] at h
  obtain ⟨c, hc, _, rfl⟩ := h
  exact List.mem_map.2 ⟨c, hc, rfl⟩
theorem Desc.there {l : List Card} {u x : ByteArray} (h : Desc l u x) : x ∈ uids l := h (· ∈ uids l) (fun _ hz => owned_there hz) (fun _ _ _ hz => owned_there hz)

structure UInv (l : List Card) (u : ByteArray) (K : List ByteArray) (e : Nat) : Prop where
  nodup : K.Nodup
  desc : ∀ s ∈ K, Desc l u s
  le : e ≤ K.length + 1
  done : ∀ i, i < e → ∀ x ∈ ownedBy l ((u :: K).getD i ByteArray.empty), x ∈ K
theorem UInv.start (l : List Card) (u : ByteArray) : UInv l u [] 0 := ⟨List.nodup_nil, fun s h => by simp at h, by simp, fun i h => by omega⟩
theorem UInv.length {l : List Card} {u : ByteArray} {K : List ByteArray} {e : Nat} (h : UInv l u K e) (hl : l.length ≤ 60) : K.length ≤ 60 := by
  have := nodup_sub_length (B := uids l) h.nodup (fun x hx => (h.desc x hx).there)
  simp [uids] at this
  omega
theorem UInv.all {l : List Card} {u : ByteArray} {K : List ByteArray} {e : Nat} (h : UInv l u K e) (he : K.length + 1 ≤ e) (s : ByteArray) : s ∈ K ↔ Desc l u s := by
  refine ⟨h.desc s, fun hd => hd (· ∈ K) (fun x hx => h.done 0 (by omega) x (by simpa using hx)) (fun y hy x hx => ?_)⟩
  obtain ⟨i, hi, rfl⟩ := List.getElem_of_mem hy
  exact h.done (i + 1) (by omega) x (by simpa [List.getD, hi] using hx)
theorem UInv.up {l : List Card} {u : ByteArray} {K : List ByteArray} {e : Nat} (h : UInv l u K e) (he : e < K.length + 1) (hall : ∀ x ∈ ownedBy l ((u :: K).getD e ByteArray.empty), x ∈ K) : UInv l u K (e + 1) :=
  ⟨h.nodup, h.desc, by omega, fun i hi => by
    by_cases e1 : i = e
    · subst e1; exact hall
    · exact h.done i (by omega)⟩
theorem getD_app (A : List ByteArray) (x d : ByteArray) (i : Nat) (h : i < A.length) : (A ++ [x]).getD i d = A.getD i d := by
  simp only [List.getD, List.getElem?_append_left h]
theorem UInv.add {l : List Card} {u : ByteArray} {K : List ByteArray} {e : Nat} (h : UInv l u K e) (he : e < K.length + 1) (x : ByteArray) (hx : x ∈ ownedBy l ((u :: K).getD e ByteArray.empty)) (hn : x ∉ K) : UInv l u (K ++ [x]) e := by
  refine ⟨?_, fun s hs => ?_, by simp; omega, fun i hi y hy => ?_⟩
  · rw [List.nodup_append]
    exact ⟨h.nodup, by simp, fun a ha b hb e => by simp at hb; subst hb; subst e; exact hn ha⟩
  · rw [List.mem_append, List.mem_singleton] at hs
    rcases hs with hs | rfl
    · exact h.desc s hs
    · cases e with
      | zero => exact Desc.one (by simpa using hx)
      | succ e =>
        have hk : K.getD e ByteArray.empty ∈ K := by
          simp only [List.getD, List.getElem?_eq_getElem (show e < K.length by omega), Option.getD_some]; exact List.getElem_mem _
        exact (h.desc _ hk).step (by simpa [List.getD] using hx)
  · have := h.done i hi y (by
      rw [← List.cons_append, getD_app _ _ _ _ (by simp; have := h.le; omega)] at hy
      exact hy)
    exact List.mem_append_left _ this
theorem drop_app (A : List ByteArray) (x : ByteArray) (e : Nat) (h : e ≤ A.length) : (A ++ [x]).drop e = A.drop e ++ [x] := by
  rw [List.drop_append_of_le_length h]
theorem drop_cons_getD (A : List ByteArray) (e : Nat) (h : e < A.length) : A.drop e = A.getD e ByteArray.empty :: A.drop (e + 1) := by
  rw [List.drop_eq_getElem_cons h]; simp [List.getD, h]
/-- the keys of a map, sorted. -/
theorem sortedKeys_any (m c : Nat) (f : ByteArray → Option Value) (K : List ByteArray) (w : World) (h : FM w m c f) (hd : ∀ s, (f s).isSome = inB s K) (hn : K.Nodup) (hl : K.length ≤ 1000) :
    Calls Try.prog 16 #[.func (.func 45) #[] #[.pointer (some ⟨w.heap.size, 0, none⟩)]] (w.alloc (.cells #[.map (some m)] 37)) fun e w' => ∃ v P, e = .returned v ∧ StrsAt w' v P ∧ P.Perm K ∧ Chg [] w w' := by
  obtain ⟨D, ho, hs, hh, _⟩ := h
  obtain ⟨es, hD, hpw, _⟩ := ho.entries sk_law
  obtain ⟨es', hD', hko⟩ := ho.keysOf
  obtain rfl : es = es' := by rw [hD] at hD'; simpa using hD'
  have hp : (bytesOf K).Perm (strKeys D) := by
    rw [hD]
    refine perm_strKeys hpw (fun p hp => by obtain ⟨v, hv⟩ := hko p hp; obtain ⟨x, _, hx, _⟩ := Maps.keyOf_str Try.underlying9 hv; exact ⟨x, hx⟩) ?_ (fun x => ?_)
    · unfold bytesOf
      rw [List.Nodup, List.pairwise_map]
      refine hn.imp fun {a b} h e => h ?_
      have := Array.ext' e
      cases a; cases b; simp_all
    · have := hh (ba x)
      rw [hd, show sk (ba x) = .string x from rfl, hD] at this
      rw [this, inB_iff]
      unfold bytesOf
      rw [List.mem_map]
      constructor
      · rintro ⟨s, hs, rfl⟩; exact hs
      · intro hx; exact ⟨_, hx, rfl⟩
  have hsz : Maps.size D = K.length := by
    have := hp.length_eq
    rw [bytesOf_length, hD] at this
    rw [hD, this]; simp [strKeys, Maps.size]
  refine (callsIn_wide.1 (Try.slices_Sorted_keys_16_29 m c D Rv w ho (by unfold maxLen; omega) (by omega))).mono ?_
  rintro e w' ⟨v, ss, rfl, hss, hrow, _, hb⟩
  have hpm : ((sortS ss).map ba).Perm K := by
    have e : (bytesOf K).map ba = K := by
      unfold bytesOf; rw [List.map_map]
      exact List.map_id'' (fun s => ba_data s) K
    have := (((sortS_perm ss).trans hss).trans hp.symm).map ba
    rwa [e] at this
  refine ⟨v, (sortS ss).map ba, rfl, ?_, hpm, ?_⟩
  · have hsl : (sortS ss).length = ss.length := sortS_length ss
    rcases hrow.2 with ⟨rfl, h0⟩ | ⟨g, cap, cur, rfl, hbb, hg, r⟩
    · exact .inl ⟨none, 0, rfl, List.eq_nil_of_length_eq_zero (by rw [List.length_map, hsl, h0])⟩
    · have := strs_of_row (zs := sortS ss) hrow ((sortS ss).map ba) (by simp [hsl]) (fun i hi => by
        have hi' : i < (sortS ss).length := by simpa using hi
        simp [List.getD, hi', data_ba])
      rw [List.length_map, hsl] at this
      exact this
  · exact ((Chg.refl [] w).alloc _).trans (Chg.of_below hb)

def U1 (B : World) (m3 : Nat) (l : List Card) (u : ByteArray) (gk : Nat) (v : Value) (wr : World) : Prop := ∃ K e, gk = 61 - e ∧ UInv l u K e ∧ Chg [m3] B wr ∧ (∃ f, FM wr m3 K.length f ∧ ∀ s, (f s).isSome = inB s K) ∧ SlAt wr v ((u :: K).drop e) ∧ ∀ k, v.ownBlock = some k → B.heap.size ≤ k
def U2 (B : World) (m3 : Nat) (l : List Card) (u x : ByteArray) (e : Nat) (vj v : Value) (wr : World) : Prop := ∃ (j : Nat) (K : List ByteArray), vj = .int .i64 j ∧ j ≤ (ownedBy l x).length ∧ UInv l u K e ∧ e < K.length + 1 ∧ (u :: K).getD e ByteArray.empty = x ∧ (∀ s ∈ (ownedBy l x).take j, s ∈ K) ∧
  Chg [m3] B wr ∧ (∃ f, FM wr m3 K.length f ∧ ∀ s, (f s).isSome = inB s K) ∧ SlAt wr v ((u :: K).drop e) ∧ ∀ k, v.ownBlock = some k → B.heap.size ≤ k
set_option maxHeartbeats 2000000 in
theorem under_any (m1 m2 : Nat) (l : List Card) (hg : Good l) (hsm : ∀ c ∈ l, c.uid.size ≤ 9223372036854775807) (u : ByteArray) (hu : u.size ≤ 9223372036854775807) (w : World) (h : GraphAt w m1 m2 l) :
    Calls Try.prog 21 #[.agg #[.map (some m1), .map (some m2)], .string u] w fun e w' => ∃ v P, e = .returned v ∧ StrsAt w' v P ∧ P.Nodup ∧ (∀ s, s ∈ P ↔ Desc l u s) ∧ Chg [] w w' := by
  have hlen60 := hg.len
  have HG := Lib.hid hg
  have HSM := Lib.hid hsm
  obtain ⟨B, hB⟩ : ∃ B, (w.alloc (.cells #[.map (some m1), .map (some m2)] 41)).alloc (.map #[] 0) = B := ⟨_, rfl⟩
  have hBs : B.heap.size = w.heap.size + 2 := by rw [← hB]; simp
  have hcB : Chg [] w B := by rw [← hB]; exact ((Chg.refl [] w).alloc _).alloc _
  have hfB : FM B (w.heap.size + 1) 0 (fun _ => none) := by
    have := FM.made (w.alloc (.cells #[.map (some m1), .map (some m2)] 41)); rw [hB, World.size_alloc] at this; exact this
  have hbx : B.heap[w.heap.size]? = some (.cells #[.map (some m1), .map (some m2)] 41 (0, 0)) := by
    rw [← hB]; exact (Below.heap_alloc _ _ _ (by simp)).trans (World.alloc_heap_new w _)
  have H0 : Hid (U1 B (w.heap.size + 1) l u 61 (.slice (some ⟨B.heap.size, 0, none⟩) 1 1) (B.alloc (.cells #[.string u] 9))) :=
    ⟨[], 0, rfl, UInv.start l u, (Chg.refl _ B).alloc _, ⟨_, hfB.chg (l := []) ((Chg.refl [] B).alloc _) (by simp), fun s => by simp [(inB_false s []).2]⟩, .inr ⟨_, 0, 1, _, rfl, World.alloc_heap_new B _, by simp, by omega, by simp, fun i hi => by
      have : i = 0 := by simpa using hi
      subst this; simp⟩, fun k hk => by simp [Value.ownBlock] at hk; omega⟩
  obtain ⟨_, c6, f6, hm61, hm62⟩ := h
  have HY : Hid (∀ X, Chg [w.heap.size + 1] B X → (FM X m2 c6 f6 ∧ ∀ s, StrsAt X ((f6 s).getD nilS) (ownedBy l s)) ∧ X.cell? ⟨w.heap.size, 1, none⟩ = some (.map (some m2))) := fun X hX => by
    have hc : Chg [] w X := hcB.trans' hX (fun x hx => by simp at hx; subst hx; exact .inr (by omega))
    refine ⟨⟨hm61.chg hc (by simp), fun s => (hm62 s).chg hc (fun _ _ _ _ _ => by simp)⟩, ?_⟩
    have := hX.heap hbx (by simp); rw [cell_of_row _ _ _ _ _ _ this]; rfl
  have HWX : Hid (∀ X, Chg [w.heap.size + 1] B X → Chg [] w X) := fun X hX => hcB.trans' hX (fun x hx => by simp at hx; subst hx; exact .inr (by omega))
  have HB := Lib.hid hB
  clear hg hsm hcB hfB hbx hm61 hm62
  go_enter Try.func21, Try.ntmps21
  go_wp2_with fail
  go_loopg [6] 61 (fun k v wr => U1 B (w.heap.size + 1) l u k v wr)
  case atStart => rw [hBs] at H0; exact H0.out
  case round =>
    clear H0
    obtain ⟨K, e, hgk, hinv, hch, ⟨f, hf, hdom⟩, hsl, hbk⟩ := hrel
    have hKl := hinv.length HG.out.len
    by_cases he : e < K.length + 1
    · obtain ⟨x, hx⟩ : ∃ x, (u :: K).getD e ByteArray.empty = x := ⟨_, rfl⟩
      have hxs : x.size ≤ 9223372036854775807 := by
        cases e with
        | zero => rw [← hx]; simpa using hu
        | succ e =>
          have hk : K.getD e ByteArray.empty ∈ K := by
            simp only [List.getD, List.getElem?_eq_getElem (show e < K.length by omega), Option.getD_some]; exact List.getElem_mem _
          have hk2 := (hinv.desc _ hk).there
          rw [mem_uids] at hk2
          obtain ⟨c, hc, hce⟩ := hk2
          have := HSM.out c hc
          rw [hce] at this
          rw [← hx]; simpa [List.getD] using this
      have hdr := drop_cons_getD (u :: K) e (by simpa using he)
      rw [hx] at hdr
      have hsl' := hsl
      rw [hdr] at hsl'
      obtain ⟨ag, cg, hvs⟩ := hsl'.shape
      subst hvs
      obtain ⟨qb, qo, hqa⟩ := hsl'.addr (by simp)
      subst hqa
      have hx0 := (hsl'.tail).2.2.1
      obtain ⟨⟨hm6, hst6⟩, hb1⟩ := HY.out wr hch
      have hlk := hm6.look Try.underlying39 zero23 x hxs
      obtain ⟨a6, cap6, hv6⟩ := (hst6 x).shape
      rw [hv6] at hlk
      have HV6 : Hid (∀ X, Chg [w.heap.size + 1] B X → StrsAt X (.slice a6 (ownedBy l x).length cap6) (ownedBy l x)) := fun X hX => by
        have := (HY.out X hX).1.2 x
        rw [hv6] at this; exact this
      have hol := ownedBy_length l x
      have HI := Lib.hid hinv
      have HC := Lib.hid hch
      have HF := Lib.hid hf
      have HD := Lib.hid hdom
      have HS := Lib.hid hsl
      have HBK := Lib.hid hbk
      have HX := Lib.hid hx
      have HDR := Lib.hid hdr
      have hlkD : (Instr.lookup 39 (.map (some m2)) (.string x) false).run Try.prog wr.drew = .ok (.slice a6 (ownedBy l x).length cap6) wr.drew := by
        have := (hm6.chg ((Chg.refl [] wr).drew) (by simp)).look Try.underlying39 zero23 x hxs
        rw [hv6] at this; exact this
      obtain ⟨Q, hQ⟩ : ∃ Q, (u :: K).drop (e + 1) = Q := ⟨_, rfl⟩
      rw [hQ] at HDR
      rw [hQ]
      have HGK := Lib.hid hgk
      clear hgk
      have HQ := Lib.hid hQ
      have H1 : Hid (U2 B (w.heap.size + 1) l u x e (.int .i64 0) (.slice (some ⟨qb, qo, none⟩) (x :: Q).length cg) wr.drew) := by
        refine ⟨0, K, rfl, Nat.zero_le _, HI.out, he, HX.out, fun s hs => by simp at hs, HC.out.drew, ⟨f, HF.out.chg ((Chg.refl [] wr).drew) (by simp), HD.out⟩, ?_, ?_⟩
        · have := HS.out
          rw [hQ] at this
          exact this.chg ((Chg.refl [] wr).drew) (fun _ _ => by simp)
        · have := HBK.out
          rw [hQ] at this
          exact this
      clear hinv hch hf hdom hsl hsl' hbk hx hm6 hst6 hv6 hdr hQ
      go_wp2_with fail
      go_region
      go_wp2_with fail
      clear hlk hlkD hb1 hx0
      obtain ⟨wo, hwo⟩ : ∃ wo, wr.drew = wo := ⟨_, rfl⟩
      rw [hwo] at H1
      rw [hwo]
      clear hwo
      go_loopw [24, 6] (fun vj v wq => U2 B (w.heap.size + 1) l u x e vj v wq) (fun vj _ _ => (ownedBy l x).length - (intOf vj).toNat)
      case atStart => exact H1.out
      case round =>
        clear H1
        obtain ⟨j, K', rfl, hj, hinv, he', hx', hdone, hch, ⟨f', hf, hdom⟩, hsl, hbk⟩ := hrel
        by_cases hjl : j < (ownedBy l x).length
        · obtain ⟨b5, off5, hb5, _, hcell⟩ := strs_cell (HV6.out wr hch) (by omega)
          subst hb5
          have hcj := hcell j hjl
          obtain ⟨s, hs⟩ : ∃ s, (ownedBy l x).getD j ByteArray.empty = s := ⟨_, rfl⟩
          rw [hs] at hcj
          have hsm : s ∈ ownedBy l x := by rw [← hs]; simp only [List.getD, List.getElem?_eq_getElem hjl, Option.getD_some]; exact List.getElem_mem hjl
          have hss : s.size ≤ 9223372036854775807 := by
            obtain ⟨c, hc, _, hce⟩ := (mem_ownedBy l x s).1 hsm
            rw [← hce]; exact HSM.out c hc
          have hlk := hf.look_ok Try.underlying37 zero3 s hss
          rw [hdom s] at hlk
          have hts := take_succ_own (ownedBy l x) j hjl
          rw [hs] at hts
          have hKl' := hinv.length HG.out.len
          cases hin : inB s K'
          · rw [hin] at hlk
            have hn := (inB_false s K').1 hin
            have hinv2 := hinv.add he' s (by rw [hx']; exact hsm) hn
            have hx2 : (u :: (K' ++ [s])).getD e ByteArray.empty = x := by
              rw [← List.cons_append, getD_app _ _ _ _ (by simpa using he')]; exact hx'
            have hdr2 : (u :: (K' ++ [s])).drop e = (u :: K').drop e ++ [s] := by
              rw [← List.cons_append, drop_app _ _ _ (by simp; omega)]
            obtain ⟨w2, hw2, hf2, hc2, hsz2⟩ := hf.set Try.underlying37 (by omega) s hss (.int .i64 1)
            clear hsz2
            have hns : (f' s).isSome = false := by rw [hdom s]; exact hin
            rw [hns, if_neg (by simp)] at hf2
            have hsl2 := hsl.chg hc2 (fun k hk hm => by
              simp at hm
              have := hbk k hk; omega)
            have hch2 := hch.trans hc2
            obtain ⟨W, hW⟩ : ∃ W, w2.alloc (.cells #[.string s] 9) = W := ⟨_, rfl⟩
            have hcW : Chg [] w2 W := by rw [← hW]; exact (Chg.refl [] w2).alloc _
            have hxW : W.cell? ⟨w2.heap.size, 0, none⟩ = some (.string s) := by rw [← hW]; simp
            have hlen : ((u :: K').drop e).length ≤ 1000 := by simp; omega
            obtain ⟨Qn, hQn⟩ : ∃ Qn, (u :: K').drop e = Qn := ⟨_, rfl⟩
            rw [hQn] at hsl hsl2 hlen hdr2
            obtain ⟨v7, w7, r7, s7, g7, L7⟩ := run_sl W 23 _ _ (hsl2.chg hcW (by simp)) hlen s ⟨w2.heap.size, 0, none⟩ hxW
            obtain ⟨aq, cq, hvq⟩ := hsl.shape
            subst hvq
            have r7' : (appWr #[23, 23] 23 #[.slice aq Qn.length cq, .slice (some ⟨w2.heap.size, 0, none⟩) 1 1]).run Try.prog W = .ok v7 w7 := r7
            have hab := L7.above (n := B.heap.size) (by have := hch2.size; have := hcW.size; omega) hbk
            have hf7 := (hf2.chg hcW (by simp)).grown g7 (hsl2.chg hcW (by simp))
            have hch7 : Chg [w.heap.size + 1] B w7 := (hch2.trans (hcW.mono (by simp))).grown g7 (fun k hk => .inr (hbk k hk))
            rw [← hdr2] at s7
            have hdone2 : ∀ y ∈ (ownedBy l x).take (j + 1), y ∈ K' ++ [s] := fun y hy => by
              rw [hts, List.mem_append, List.mem_singleton] at hy
              rcases hy with hy | rfl
              · exact List.mem_append_left _ (hdone y hy)
              · simp
            have hdom2 : ∀ t, (upd f' s (some (.int .i64 1)) t).isSome = inB t (K' ++ [s]) := fun t => by
              unfold upd
              rw [Bool.eq_iff_iff, inB_iff, List.mem_append, List.mem_singleton]
              by_cases e : t = s
              · subst e; simp
              · rw [if_neg e, hdom t, inB_iff]; simp [e]
            have hkl2 : K'.length + 1 = (K' ++ [s]).length := by simp
            rw [hkl2] at hf7
            have HR : Hid (U2 B (w.heap.size + 1) l u x e (.int .i64 ((j : Int) + 1)) v7 w7) :=
              ⟨j + 1, K' ++ [s], by go_num, by omega, hinv2, by simp; omega, hx2, hdone2, hch7, ⟨_, hf7, hdom2⟩, s7, hab⟩
            clear hin hn hinv2 hx2 hdr2 hf2 hc2 hns hsl2 hch2 hcW hxW hlen r7 s7 g7 L7 hab hf7 hch7 hdone2 hdom2 hkl2 hinv hx' hdone hch hf hdom hsl hbk hcell hs hts hsm hQn
            subst hW
            go_wp2_with fail
            refine ⟨HR.out, ?_⟩
            simp [intOf]; omega
          · rw [hin] at hlk
            have hdone2 : ∀ y ∈ (ownedBy l x).take (j + 1), y ∈ K' := fun y hy => by
              rw [hts, List.mem_append, List.mem_singleton] at hy
              rcases hy with hy | rfl
              · exact hdone y hy
              · exact (inB_iff _ _).1 hin
            have HR : Hid (U2 B (w.heap.size + 1) l u x e (.int .i64 ((j : Int) + 1)) u6 wr) :=
              ⟨j + 1, K', by go_num, by omega, hinv, he', hx', hdone2, hch, ⟨f', hf, hdom⟩, hsl, hbk⟩
            clear hin hdone2 hinv hx' hdone hch hf hdom hsl hbk hcell hs hts hsm
            go_wp2_with fail
            refine ⟨HR.out, ?_⟩
            simp [intOf]; omega
        · have hall : ∀ y ∈ ownedBy l x, y ∈ K' := fun y hy => hdone y (by rw [List.take_of_length_le (by omega)]; exact hy)
          have hinv2 := hinv.up he' (by rw [hx']; exact hall)
          have hdr := drop_cons_getD (u :: K') e (by simpa using he')
          rw [hx'] at hdr
          rw [hdr] at hsl
          obtain ⟨Qn, hQn⟩ : ∃ Qn, (u :: K').drop (e + 1) = Qn := ⟨_, rfl⟩
          rw [hQn] at hsl
          obtain ⟨aq, cq, hvq⟩ := hsl.shape
          subst hvq
          obtain ⟨gb, go, hgo⟩ := hsl.addr (by simp)
          subst hgo
          have hKl' := hinv.length HG.out.len
          obtain ⟨_, hcap1, _, htl⟩ := hsl.tail
          by_cases hc1 : cq = 1
          · subst hc1
            have htl := hsl.tail1
            have HR : Hid (U1 B (w.heap.size + 1) l u (61 - (e + 1)) (.slice (some ⟨gb, go, none⟩) Qn.length 0) wr) :=
              ⟨K', e + 1, rfl, hinv2, hch, ⟨f', hf, hdom⟩, by rw [hQn]; exact htl, fun k hk => hbk k hk⟩
            clear htl hcap1 hsl hinv2 hinv hx' hdone hall hch hf hdom hbk hdr hQn
            go_wp2_with fail
            go_roundg (61 - (e + 1))
            case measure => have := HGK.out; omega
            case rel => exact HR.out
          · have hne1 : (cq = 1) = False := by simp [hc1]
            have HR : Hid (U1 B (w.heap.size + 1) l u (61 - (e + 1)) (.slice (some ⟨gb, go + 1, none⟩) Qn.length (cq - 1)) wr) :=
              ⟨K', e + 1, rfl, hinv2, hch, ⟨f', hf, hdom⟩, by rw [hQn]; exact htl, fun k hk => hbk k hk⟩
            clear htl hcap1 hsl hinv2 hinv hx' hdone hall hch hf hdom hbk hdr hQn
            go_wp2_with fail
            go_roundg (61 - (e + 1))
            case measure => have := HGK.out; omega
            case rel => exact HR.out
    · have hdr : (u :: K).drop e = [] := List.drop_eq_nil_of_le (by simp; omega)
      rw [hdr] at hsl
      obtain ⟨aq, cq, hvq⟩ := hsl.shape
      subst hvq
      have hall := hinv.all (by omega)
      have CK := Lib.hid (callsIn_wide.1 (Try.maps_Keys_29 (some (w.heap.size + 1)) wr))
      have CS := Lib.hid (sortedKeys_any (w.heap.size + 1) K.length f K wr hf hdom hinv.nodup (by omega))
      have HN := Lib.hid hinv.nodup
      have HALL := Lib.hid hall
      have HC := Lib.hid hch
      clear hinv hch hf hdom hsl hbk hdr hall hgk
      go_wp2_with fail
      refine CK.out.mono ?_
      rintro e1 w' ⟨rfl, rfl⟩
      go_wp2_with fail
      refine CS.out.mono ?_
      rintro e1 w' ⟨v, P, rfl, hst, hpm, hc⟩
      have HST := Lib.hid hst
      have HPM := Lib.hid hpm
      have HC2 := Lib.hid hc
      clear hst hpm hc
      go_wp2_with fail
      go_ret
      exact ⟨v, P, rfl, HST.out, HPM.out.nodup_iff.2 HN.out, fun s => by rw [HPM.out.mem_iff]; exact HALL.out s, (HWX.out _ HC.out).trans HC2.out⟩
end Go.Proofs.Ytfdfljcieeccbaa
