/- THE WALK of refs.Order. Conditions: the cards hold in memory what they say. -/
import Derived.Test.YtfdfljcieeccbaaRow
import Derived.BigRegion
import Derived.Deep.LoopGhost
import Derived.Deep.RegionHeld3
import Derived.WalkLawsBesides
namespace Go.Proofs.Ytfdfljcieeccbaa
open Go.RowKit Go.Maps
attribute [local go_sem] run_makeMap
attribute [local go_sem ↓ high] appWr_eq
def O1 (B : World) (m3 : Nat) (l : List Card) (v : Value) (wr : World) : Prop := ∃ i : Nat, v = .int .i64 i ∧ i ≤ l.length ∧ Chg [m3] B wr ∧ ∃ f, FM wr m3 i f ∧ ∀ s, f s = if inB s ((uids l).take i) = true then some (.int .i64 (leftN l [] s)) else none
def O2 (B : World) (m4 : Nat) (l : List Card) (v : Value) (wr : World) : Prop := ∃ i : Nat, v = .int .i64 i ∧ i ≤ l.length ∧ Chg [m4] B wr ∧ ∃ f, FM wr m4 i f ∧ (∀ s, (f s).isSome = inB s ((uids l).take i)) ∧ ∀ k, k < i → StrsAt wr ((f (gc l k).uid).getD nilS) (distinct (gc l k).owners)
def O3 (B : World) (m3 : Nat) (l : List Card) (gk : Nat) (v : Value) (wr : World) : Prop := ∃ out, out.length + gk = l.length ∧ OInv l out ∧ Chg [m3] B wr ∧ (∃ f, FM wr m3 gk f ∧ ∀ s, f s = leftF l out s) ∧ SlAt wr v out ∧ ∀ k, v.ownBlock = some k → B.heap.size ≤ k
def O4 (W : World) (m3 r c : Nat) (f : ByteArray → Option Value) (v1 v2 : Value) (wr : World) : Prop := ∃ (s : ByteArray) (bb : Bool) (cnt : Nat), v1 = .string s ∧ v2 = .bool bb ∧ (bb = true → s.size ≤ 9223372036854775807 ∧ f s = some (.int .i64 0)) ∧ FMR wr m3 r c f cnt ∧ Chg [r] W wr
def O5 (W : World) (m3 : Nat) (l : List Card) (out : List ByteArray) (x : ByteArray) (ds : List ByteArray) (c : Nat) (v : Value) (wr : World) : Prop := ∃ j : Nat, v = .int .i64 j ∧ j ≤ ds.length ∧ Chg [m3] W wr ∧ ∃ f, FM wr m3 c f ∧ ∀ s, f s = leftJ l out x ds j s
theorem take_uid (l : List Card) (i : Nat) (h : i < l.length) : (uids l).take (i + 1) = (uids l).take i ++ [(gc l i).uid] := by
  rw [← uids_take, take_succ_gc l i h]; simp [uids, List.map_take]
set_option maxRecDepth 100000 in
set_option maxHeartbeats 4000000 in
theorem order_any (a : Option Addr) (cap : Nat) (l : List Card) (w : World) (h : CardsAt w (.slice a l.length cap) l) :
    Calls Try.prog 13 #[.slice a l.length cap] w fun e w' => Chg [] w w' ∧ ((checkE l ≠ 0 ∧ e = .returned (.tuple #[.slice none 0 0, .int .i64 (checkE l)])) ∨
      (Good l ∧ (e = .returned (.tuple #[.slice none 0 0, .int .i64 1]) ∨ ∃ v out, e = .returned (.tuple #[v, .int .i64 0]) ∧ StrsAt w' v out ∧ OInv l out ∧ out.length = l.length))) := by
  have C8 := Lib.hid (check8_any a cap l w h)
  by_cases hck : checkE l = 0
  · have hg := (good_iff l).1 hck
    have HSM := Lib.hid h.small
    have HA := Lib.hid h
    have HG := Lib.hid hg
    have hlen := hg.len
    rw [hck] at C8
    clear h hg hck
    go_enter Try.func13, Try.ntmps13
    go_wp2_with fail
    refine C8.out.mono ?_
    rintro e w1 ⟨rfl, hc1⟩
    have CO := Lib.hid (of_any a cap l w1 (HA.out.chg hc1) HG.out.len HG.out.uids HG.out.four)
    have HC1 := Lib.hid hc1
    clear hc1 C8
    go_wp2_with fail
    refine CO.out.mono ?_
    rintro e w2 ⟨m1, m2, rfl, hgr, hc2⟩
    obtain ⟨B, hB⟩ : ∃ B, (w2.alloc (.cells #[.map (some m1), .map (some m2)] 41)).alloc (.map #[] 0) = B := ⟨_, rfl⟩
    have hBs : B.heap.size = w2.heap.size + 2 := by rw [← hB]; simp
    have hcB : Chg [] w2 B := by rw [← hB]; exact ((Chg.refl [] w2).alloc _).alloc _
    have hfB : FM B (w2.heap.size + 1) 0 (fun _ => none) := by
      have := FM.made (w2.alloc (.cells #[.map (some m1), .map (some m2)] 41)); rw [hB, World.size_alloc] at this; exact this
    have hbx : B.heap[w2.heap.size]? = some (.cells #[.map (some m1), .map (some m2)] 41 (0, 0)) := by
      rw [← hB]; exact (Below.heap_alloc _ _ _ (by simp)).trans (World.alloc_heap_new w2 _)
    have H0 : Hid (O1 B (w2.heap.size + 1) l (.int .i64 0) B) := ⟨0, rfl, Nat.zero_le _, Chg.refl _ _, _, hfB, fun s => by rw [if_neg (by simp [inB_iff])]⟩
    have HC2 := Lib.hid (HC1.out.trans hc2)
    have hw12 : w.heap.size ≤ w2.heap.size := HC2.out.size
    have HWX : Hid (∀ X, Chg [w2.heap.size + 1] B X → Chg [] w X) := fun X hX => (HC2.out.trans hcB).trans' hX (fun x hx => by simp at hx; subst hx; exact .inr (by omega))
    obtain ⟨_, c6, f6, hm61, hm62⟩ := hgr
    have HY : Hid (∀ X, Chg [w2.heap.size + 1] B X → (FM X m2 c6 f6 ∧ ∀ s, StrsAt X ((f6 s).getD nilS) (ownedBy l s)) ∧ X.cell? ⟨w2.heap.size, 1, none⟩ = some (.map (some m2))) := fun X hX => by
      have hc : Chg [] w2 X := hcB.trans' hX (fun x hx => by simp at hx; subst hx; exact .inr (by omega))
      refine ⟨⟨hm61.chg hc (by simp), fun s => (hm62 s).chg hc (fun _ _ _ _ _ => by simp)⟩, ?_⟩
      have := hX.heap hbx (by simp); rw [cell_of_row _ _ _ _ _ _ this]; rfl
    have HB := Lib.hid hB
    clear hcB hfB hbx hc2 hm61 hm62 CO
    go_wp2_with fail
    clear hB
    go_loopw [31] (fun v wr => O1 B (w2.heap.size + 1) l v wr) (fun v _ => l.length - (intOf v).toNat)
    case atStart => exact H0.out
    case round =>
      clear H0
      obtain ⟨i, rfl, hi, hch, f, hf, hfe⟩ := hrel
      by_cases hlt : i < l.length
      · rcases HA.out with ⟨a', cap', h1, h2⟩ | ⟨b, off, cap', h1, hl1, hl2, hl3, hat⟩
        · subst h2; simp at hlt
        · injection h1 with h1 h2 h3
          subst h1 h3
          obtain ⟨v, k1, k2, hs, hu, hso, hol⟩ := hat i hlt
          obtain ⟨a2, cap2, rfl⟩ := hs.shape
          have hcw := HWX.out wr hch
          have k1' := hcw.cell k1 (by simp)
          have k2' := hcw.cell k2 (by simp)
          have hnb := not_before l HG.out.uids i hlt
          have htk := take_uid l i hlt
          obtain ⟨xu, hxu⟩ : ∃ xu, (gc l i).uid = xu := ⟨_, rfl⟩
          obtain ⟨xo, hxo⟩ : ∃ xo, (gc l i).owners.length = xo := ⟨_, rfl⟩
          rw [hxo] at k2'
          rw [hxu] at k1' hu hnb htk
          obtain ⟨W, hW⟩ : ∃ W, wr.alloc (.cells #[.string xu, .slice a2 xo cap2] 31) = W := ⟨_, rfl⟩
          have wO : Chg [] wr W := by rw [← hW]; exact (Chg.refl [] wr).alloc _
          have hWs : W.heap.size = wr.heap.size + 1 := by rw [← hW]; simp
          have hxb : W.heap[wr.heap.size]? = some (.cells #[.string xu, .slice a2 xo cap2] 31 (0, 0)) := by rw [← hW]; exact World.alloc_heap_new wr _
          have z1 : W.cell? ⟨wr.heap.size, 0, none⟩ = some (.string xu) := by rw [cell_of_row _ _ _ _ _ _ hxb]; rfl
          have hchW := hch.trans (wO.mono (l' := [w2.heap.size + 1]) (by simp))
          obtain ⟨⟨hm6, hst6⟩, hb1⟩ := HY.out W hchW
          have hlk := hm6.look Try.underlying39 zero23 xu hu
          obtain ⟨a6, cap6, hv6⟩ := (hst6 xu).shape
          rw [hv6] at hlk
          have hol2 := ownedBy_length l xu
          obtain ⟨w5, r5, f5, hc5, hs5⟩ := (hf.chg wO (by simp)).set Try.underlying37 (by omega) xu hu (.int .i64 (ownedBy l xu).length)
          clear hs5
          have hnone : (f xu).isSome = false := by rw [hfe xu, (inB_false _ _).2 hnb]; rfl
          rw [hnone, if_neg (by simp)] at f5
          have HR : Hid (O1 B (w2.heap.size + 1) l (.int .i64 ((i : Int) + 1)) w5) := ⟨i + 1, by go_num, by omega, hchW.trans hc5, _, f5, fun s => by
            rw [htk, inB_push]
            unfold upd
            by_cases e : s = xu
            · subst e; rw [if_pos rfl, if_pos (by simp), leftN_nil]
            · rw [if_neg e, hfe s]; simp [e]⟩
          clear hs hso hol hat k1 k2 hcw hnb htk hxu hxo wO hWs hxb hchW hm6 hst6 hv6 f5 hc5 hnone hch hf hfe
          subst hW
          go_wp2_with fail
          go_roundw
          case rel => exact HR.out
          case measure => simp [intOf]; omega
      · have hil : i = l.length := by omega
        subst hil
        have htl : (uids l).take l.length = uids l := List.take_of_length_le (by simp [uids])
        rw [htl] at hfe
        have HF := Lib.hid hf
        have HFE := Lib.hid hfe
        have HCH := Lib.hid hch
        obtain ⟨B2, hB2⟩ : ∃ B2, wr.alloc (.map #[] 0) = B2 := ⟨_, rfl⟩
        have hB2s : B2.heap.size = wr.heap.size + 1 := by rw [← hB2]; simp
        have hcB2 : Chg [] wr B2 := by rw [← hB2]; exact (Chg.refl [] wr).alloc _
        have hfB2 : FM B2 wr.heap.size 0 (fun _ => none) := by rw [← hB2]; exact FM.made wr
        have HF2 := Lib.hid (hf.chg hcB2 (by simp))
        have hmlt := hf.lt
        have HCH2 := Lib.hid (hch.trans (hcB2.mono (l' := [w2.heap.size + 1]) (by simp)))
        have H1 : Hid (O2 B2 wr.heap.size l (.int .i64 0) B2) := ⟨0, rfl, Nat.zero_le _, Chg.refl _ _, _, hfB2, fun s => by simp [(inB_false s []).2], fun k hk => by omega⟩
        clear hf hfe hch htl hcB2 hfB2
        go_wp2_with fail
        have HB2 := Lib.hid hB2
        clear hB2
        obtain ⟨wl, rfl⟩ : ∃ wl : World, wl = wr := ⟨_, rfl⟩
        have hB2w : w.heap.size ≤ B2.heap.size := by have := (HWX.out _ HCH2.out).size; omega
        have hB2h : B2.heap.size = wl.heap.size + 1 := hB2s
        go_loopw [48] (fun v wr => O2 B2 wl.heap.size l v wr) (fun v _ => l.length - (intOf v).toNat)
        case atStart => exact H1.out
        case round =>
          clear H1
          obtain ⟨i, rfl, hi, hch, f2, hf2, hfe2, hst2⟩ := hrel
          have hwX : Chg [] w wr := (HWX.out _ HCH2.out).trans' hch (fun x hx => by simp at hx; subst hx; exact .inr (by have := (HWX.out _ HCH.out).size; omega))
          by_cases hlt : i < l.length
          · rcases HA.out with ⟨a', cap', h1, h2⟩ | ⟨b, off, cap', h1, hl1, hl2, hl3, hat⟩
            · subst h2; simp at hlt
            · injection h1 with h1 h2 h3
              subst h1 h3
              obtain ⟨v, k1, k2, hs, hu, hso, hol⟩ := hat i hlt
              obtain ⟨a2, cap2, rfl⟩ := hs.shape
              have k1' := hwX.cell k1 (by simp)
              have k2' := hwX.cell k2 (by simp)
              have ho4 := HG.out.four _ (gc_mem l i hlt)
              have hnb := not_before l HG.out.uids i hlt
              have htk := take_uid l i hlt
              obtain ⟨W, hW⟩ : ∃ W, wr.alloc (.cells #[.string (gc l i).uid, .slice a2 (gc l i).owners.length cap2] 31) = W := ⟨_, rfl⟩
              have wO : Chg [] wr W := by rw [← hW]; exact (Chg.refl [] wr).alloc _
              have hxb : W.heap[wr.heap.size]? = some (.cells #[.string (gc l i).uid, .slice a2 (gc l i).owners.length cap2] 31 (0, 0)) := by rw [← hW]; exact World.alloc_heap_new wr _
              have hsW := hs.chg (hwX.trans wO) (fun _ _ _ _ _ => by simp)
              obtain ⟨os, hos⟩ : ∃ os, (gc l i).owners = os := ⟨_, rfl⟩
              obtain ⟨xu, hxu⟩ : ∃ xu, (gc l i).uid = xu := ⟨_, rfl⟩
              rw [hos] at k2' hW hxb hsW ho4
              rw [hxu] at k1' hW hxb hnb htk hu
              have HKEEP : Hid (∀ X, Chg [] W X → X.cell? ⟨wr.heap.size, 0, none⟩ = some (.string xu) ∧ X.cell? ⟨wr.heap.size, 1, none⟩ = some (.slice a2 os.length cap2)) := fun X hX => by
                have := hX.heap hxb (by simp)
                exact ⟨by rw [cell_of_row _ _ _ _ _ _ this]; rfl, by rw [cell_of_row _ _ _ _ _ _ this]; rfl⟩
              have HSW := Lib.hid hsW
              have HEND : Hid (∀ X v4, Chg [] W X → StrsAt X v4 (distinct os) → ∃ w9, (Instr.mapUpdate 39 (.map (some wl.heap.size)) (.string xu) v4).run Try.prog X = .ok () w9 ∧ O2 B2 wl.heap.size l (.int .i64 ((i : Int) + 1)) w9 ∧ w9.cell? ⟨wr.heap.size, 0, none⟩ = some (.string xu) ∧ w9.cell? ⟨wr.heap.size, 1, none⟩ = some (.slice a2 os.length cap2)) := fun X v4 hX h4 => by
                obtain ⟨w9, r9, f9, c9, s9⟩ := (hf2.chg (wO.trans hX) (by simp)).set Try.underlying39 (by omega) xu hu v4
                refine ⟨w9, r9, ⟨i + 1, by go_num, by omega, (hch.trans ((wO.trans hX).mono (by simp))).trans c9, upd f2 xu (some v4), ?_, fun s => ?_, fun k hk => ?_⟩, c9.cell (HKEEP.out X hX).1 (by simp; have := hf2.lt; omega), c9.cell (HKEEP.out X hX).2 (by simp; have := hf2.lt; omega)⟩
                · have : (f2 xu).isSome = false := by rw [hfe2 xu]; exact (inB_false _ _).2 hnb
                  rw [this, if_neg (by simp)] at f9
                  exact f9
                · rw [htk, inB_push]
                  unfold upd
                  by_cases e : s = xu
                  · subst e; simp
                  · rw [if_neg e, hfe2 s]; simp [e]
                · have hfX := hf2.chg (wO.trans hX) (by simp)
                  unfold upd
                  by_cases e : k = i
                  · subst e
                    rw [if_pos hxu, hos]
                    exact h4.chgMap c9 hfX
                  · have hne : (gc l k).uid ≠ xu := fun e2 => by
                      refine hnb ?_
                      rw [← e2]
                      have : (uids l)[k]'(by simp [uids]; omega) = (gc l k).uid := by simp [uids, gc, List.getD, show k < l.length by omega]
                      rw [← this, List.mem_take_iff_getElem]
                      exact ⟨k, by simp [uids]; omega, rfl⟩
                    rw [if_neg hne]
                    exact ((hst2 k (by omega)).chg (wO.trans hX) (fun _ _ _ _ _ => by simp)).chgMap c9 hfX
              clear hs hso hat k1 k2 hnb htk hos hxu wO hxb hsW hch hf2 hfe2 hst2 hwX
              go_wp2_with fail
              have hD : Chg [] W W.drew := (Chg.refl _ _).drew
              have HSD := Lib.hid (HSW.out.chg hD (fun _ _ _ _ _ => by simp))
              have HW := Lib.hid hW
              clear hW
              go_region_held3 (fun X => X.cell? ⟨wr.heap.size, 0, none⟩ = some (.string xu) ∧ X.cell? ⟨wr.heap.size, 1, none⟩ = some (.slice a2 os.length cap2)) (first | exact HKEEP.out _ (by assumption) | (refine ⟨?_, ?_⟩ <;> assumption))
                (first
                | (go_at_call 17; refine (values_any a2 os.length cap2 W.drew).mono ?_; rintro e w' ⟨rfl, rfl⟩; have hC1 : Chg [] W (W.drew.alloc (.cells #[.slice a2 os.length cap2] 23)) := hD.alloc _)
                | (go_at_call 16; refine (sorted_any (.slice a2 os.length cap2) os (by omega) W.drew HSD.out).mono ?_; rintro e w3 ⟨v3, rfl, hrow, hb3⟩; have hC3 : Chg [] W w3 := hD.trans (Chg.of_below hb3))
                | (go_at_call 15; refine (compact_any W.drew.heap.size v3 os (by omega) w3 hb3.size hrow).mono ?_; rintro e w4 ⟨v4, rfl, hs4, hb4⟩; have hC4 : Chg [] W w4 := hD.trans (Chg.of_below (hb3.trans hb4)); obtain ⟨w9, r9, HO9, hk1, hk2⟩ := HEND.out w4 v4 hC4 hs4))
              have HO9' := Lib.hid HO9
              clear hrow hb3 hs4 hb4 hC1 hC3 hC4 HO9 hk1 hk2 r9 hD
              go_wp2_with fail
              refine ⟨HO9'.out, ?_⟩
              simp [intOf]; omega
          · have hil : i = l.length := by omega
            subst hil
            have htl : (uids l).take l.length = uids l := List.take_of_length_le (by simp [uids])
            rw [htl] at hfe2
            have hC3 : Chg [w2.heap.size + 1] B wr := HCH2.out.trans' hch (fun x hx => by simp at hx; subst hx; exact .inr (by have := HCH.out.size; omega))
            have HF3 := Lib.hid (HF2.out.chg hch (by simp; omega))
            have H2 : Hid (O3 wr (w2.heap.size + 1) l l.length (.slice none 0 0) wr) := ⟨[], by simp, OInv.start l, Chg.refl _ _, ⟨f, HF3.out, fun s => by rw [HFE.out s]; unfold leftF; rw [(inB_false s []).2 (by simp)]; simp⟩, SlAt.nil _, fun k hk => by simp [Value.ownBlock] at hk⟩
            have HX : Hid (∀ X, Chg [w2.heap.size + 1] wr X → FM X wl.heap.size l.length f2 ∧ ∀ c ∈ l, StrsAt X ((f2 c.uid).getD nilS) (distinct c.owners)) := fun X hX =>
              ⟨hf2.chg hX (by simp; omega), fun c hc => by
                obtain ⟨k, hk, hke⟩ := List.getElem_of_mem hc
                have := hst2 k hk
                have e : gc l k = c := by rw [← hke]; simp [gc, List.getD, hk]
                rw [e] at this
                exact this.chgMap hX HF3.out⟩
            have HWX3 : Hid (∀ X, Chg [w2.heap.size + 1] wr X → Chg [] w X) := fun X hX => HWX.out X (hC3.trans hX)
            have hm3 : w2.heap.size + 1 < wr.heap.size := HF3.out.lt
            clear hch hf2 hfe2 hst2 hwX htl hC3
            go_wp2_with fail
            obtain ⟨wz, rfl⟩ : ∃ wz : World, wz = wr := ⟨_, rfl⟩
            go_loopg [12] l.length (fun k v wr => O3 wz (w2.heap.size + 1) l k v wr)
            case atStart => exact H2.out
            case round =>
              clear H2
              obtain ⟨out, hgk, hinv, hch, ⟨f3, hf3, hfe3⟩, hsl, hbk⟩ := hrel
              by_cases h0 : 0 < gk
              · have hl3 := hf3.len Try.underlying37
                obtain ⟨wR, hrng, hfmr, hcR, hsR⟩ := hf3.range Try.underlying37
                have HGK := Lib.hid hgk
                have HI := Lib.hid hinv
                have HC := Lib.hid hch
                have HF := Lib.hid hf3
                have HFE3 := Lib.hid hfe3
                have HS := Lib.hid hsl
                have HBK := Lib.hid hbk
                have HCR := Lib.hid hcR
                have H4 : Hid (O4 wR (w2.heap.size + 1) wr.heap.size gk f3 (.string ByteArray.empty) (.bool false) wR) := ⟨_, _, _, rfl, rfl, fun h => by simp at h, hfmr, Chg.refl _ _⟩
                clear hgk hinv hch hf3 hfe3 hsl hbk hcR hsR hfmr
                go_wp2_with fail
                obtain ⟨wq, rfl⟩ : ∃ wq : World, wq = wr := ⟨_, rfl⟩
                clear hrng hl3
                go_loopw [13, 14] (fun v1 v2 wr => O4 wR (w2.heap.size + 1) wq.heap.size gk f3 v1 v2 wr) (fun _ _ wr => wr.rangeLeft (w2.heap.size + 1) wq.heap.size)
                case atStart => exact H4.out
                case round =>
                  clear H4
                  obtain ⟨s, bb, cnt, rfl, rfl, hbb, hfmr, hcw⟩ := hrel
                  rcases hfmr.next 0 with hn | ⟨s2, v2, w6, cnt2, hs2, hfs2, hn, hfmr2, hlt2, hc6, hen⟩
                  · cases bb
                    · have HCW := Lib.hid hcw
                      clear hcw hfmr hbb
                      go_wp2_with fail
                      go_ret2
                      exact ⟨HWX3.out _ ((HC.out.trans (HCR.out.mono (by simp))).trans' HCW.out (fun x hx => by simp at hx; subst hx; exact .inr HC.out.size)), .inr ⟨HG.out, .inl rfl⟩⟩
                    · obtain ⟨hss, hfs⟩ := hbb rfl
                      have HFMR := Lib.hid hfmr
                      have HCW := Lib.hid hcw
                      have hfl : leftF l out s = some (.int .i64 0) := by rw [← HFE3.out s]; exact hfs
                      have hsu : s ∈ uids l ∧ s ∉ out ∧ leftN l out s = 0 := by
                        unfold leftF at hfl
                        split at hfl
                        · rename_i hd
                          refine ⟨(inB_iff _ _).1 hd.1, (inB_false _ _).1 hd.2, ?_⟩
                          injection hfl with hfl
                          injection hfl with _ hfl
                          omega
                        · cases hfl
                      obtain ⟨hsu, hso, hs0⟩ := hsu
                      have hinv2 := HI.out.push s hso hsu hs0
                      obtain ⟨cx, hcx, hcxe⟩ := (mem_uids l s).1 hsu
                      have hoc := HI.out.length
                      have hcq : Chg [] wq wr := HCR.out.trans' hcw (fun x hx => by simp at hx; subst hx; exact .inr (Nat.le_refl _))
                      obtain ⟨W, hW⟩ : ∃ W, wr.alloc (.cells #[.string s] 9) = W := ⟨_, rfl⟩
                      have hcW : Chg [] wr W := by rw [← hW]; exact (Chg.refl [] wr).alloc _
                      have hxW : W.cell? ⟨wr.heap.size, 0, none⟩ = some (.string s) := by rw [← hW]; simp
                      have hslW := HS.out.chg (hcq.trans hcW) (fun _ _ => by simp)
                      obtain ⟨v7, w7, r7, s7, g7, L7⟩ := run_sl W 23 _ _ hslW (by omega) s ⟨wr.heap.size, 0, none⟩ hxW
                      obtain ⟨ao, co, hvo⟩ := hslW.shape
                      subst hvo
                      have r7' : (appWr #[23, 23] 23 #[.slice ao out.length co, .slice (some ⟨wr.heap.size, 0, none⟩) 1 1]).run Try.prog W = .ok v7 w7 := r7
                      have hab := L7.above (n := wz.heap.size) (by have := HC.out.size; have := hcq.size; have := hcW.size; omega) HBK.out
                      have hf7 := (hfmr.fm.chg hcW (by simp)).grown g7 hslW
                      have hc7 : Chg [w2.heap.size + 1] wz w7 := (HC.out.trans ((hcq.trans hcW).mono (by simp))).grown g7 (fun k hk => .inr (HBK.out k hk))
                      obtain ⟨w8, r8, f8, hc8, hs8⟩ := hf7.del Try.underlying37 s hss
                      clear hs8
                      have hss2 : (f3 s).isSome = true := by rw [hfs]; rfl
                      rw [hss2, if_pos rfl] at f8
                      have hc8' := hc7.trans hc8
                      obtain ⟨hm4, hst4⟩ := HX.out w8 hc8'
                      have hlk4 := hm4.look Try.underlying39 zero23 s hss
                      have hdso := hst4 cx hcx
                      rw [hcxe] at hdso
                      obtain ⟨a8, cap8, hv8⟩ := hdso.shape
                      rw [hv8] at hlk4 hdso
                      have hdsn := distinct_nodup cx.owners
                      have hdsl := distinct_length cx.owners
                      have hc4 := HG.out.four cx hcx
                      have hdss : Small (distinct cx.owners) := fun y hy => (HSM.out cx hcx).2 y ((mem_distinct _ y).1 hy)
                      have hend := fun j hj t => leftJ_end (j := j) HG.out.uids hcx (by rw [hcxe]; exact hso) hj t
                      rw [hcxe] at hend
                      obtain ⟨ds, hds⟩ : ∃ ds, distinct cx.owners = ds := ⟨_, rfl⟩
                      rw [hds] at hlk4 hdso hdsn hdsl hdss hend
                      have hDS : Hid (∀ X, Chg [w2.heap.size + 1] w8 X → StrsAt X (.slice a8 ds.length cap8) ds) := fun X hX => hdso.chgMap hX f8
                      have s8 : SlAt w8 v7 (out ++ [s]) := s7.chg hc8 (fun k hk hm => by simp at hm; have := hab k hk; omega)
                      obtain ⟨aq, cq2, hvq⟩ := s8.shape
                      have H5 : Hid (O5 w8 (w2.heap.size + 1) l out s ds (gk - 1) (.int .i64 0) w8) := ⟨0, rfl, Nat.zero_le _, Chg.refl _ _, _, f8, fun t => by
                        rw [← leftJ_zero l out s ds t]
                        unfold upd
                        split
                        · rfl
                        · exact HFE3.out t⟩
                      have HS8 := Lib.hid s8
                      have HAB := Lib.hid hab
                      have HC8 := Lib.hid hc8'
                      have HEND := Lib.hid hend
                      have HDN := Lib.hid hdsn
                      have HDSS := Lib.hid hdss
                      have HI2 := Lib.hid hinv2
                      have hds4 : ds.length ≤ 4 := by omega
                      have hgk60 : gk ≤ 60 := by have := HGK.out; omega
                      clear hcw hfmr hbb hfs hfl hsu hso hs0 hinv2 hcxe hcx hcq hcW hxW hslW r7 s7 g7 L7 hab hf7 hc7 f8 hc8 hss2 hc8' hm4 hst4 hdso hv8 hdsn hdsl hc4 hdss hend hds s8 hvq
                      subst hW
                      go_wp2_with fail
                      obtain ⟨wy, rfl⟩ : ∃ wy : World, wy = wr := ⟨_, rfl⟩
                      clear hlk4 r8 r7'
                      go_loopw [95] (fun v wr => O5 w8 (w2.heap.size + 1) l out s ds (gk - 1) v wr) (fun v _ => ds.length - (intOf v).toNat)
                      case atStart => exact H5.out
                      case round =>
                        clear H5
                        obtain ⟨j, rfl, hj, hch, f9, hf9, hfe9⟩ := hrel
                        by_cases hjl : j < ds.length
                        · obtain ⟨b5, off5, hb5, _, hcell⟩ := strs_cell (hDS.out wr hch) (by omega)
                          subst hb5
                          have hcj := hcell j hjl
                          have hoz := HDSS.out.at j
                          have hf9j := hfe9 (ds.getD j ByteArray.empty)
                          have hin := fun v => leftJ_in (l := l) (out := out) (x := s) HDN.out hjl (v := v)
                          have hout := leftJ_out (l := l) (out := out) (x := s) hjl
                          obtain ⟨o, ho⟩ : ∃ o, ds.getD j ByteArray.empty = o := ⟨_, rfl⟩
                          rw [ho] at hcj hoz hf9j hin hout
                          have hlk := hf9.look_ok Try.underlying37 zero3 o hoz
                          have hlk2 := hf9.look Try.underlying37 zero3 o hoz
                          rw [hf9j] at hlk hlk2
                          cases hq : leftJ l out s ds j o with
                          | none =>
                            rw [hq] at hlk
                            have HR : Hid (O5 w8 (w2.heap.size + 1) l out s ds (gk - 1) (.int .i64 ((j : Int) + 1)) wr) := ⟨j + 1, by go_num, by omega, hch, f9, hf9, fun t => by rw [hfe9 t]; exact hout hq t⟩
                            clear hcell ho hf9j hin hout hlk2 hq hch hf9 hfe9
                            go_wp2_with fail
                            refine ⟨HR.out, ?_⟩
                            simp [intOf]; omega
                          | some v9 =>
                            rw [hq] at hlk hlk2
                            obtain ⟨rfl, hstep⟩ := hin v9 hq
                            have hnl := leftN_le l out o
                            obtain ⟨n, hn⟩ : ∃ n, leftN l out o = n := ⟨_, rfl⟩
                            rw [hn] at hlk hlk2 hstep hnl
                            obtain ⟨w9, r9, f10, hc9, hs9⟩ := hf9.set Try.underlying37 (by omega) o hoz (.int .i64 ((n : Int) - 1))
                            clear hs9
                            have hsome : (f9 o).isSome = true := by rw [hf9j, hq]; rfl
                            rw [hsome, if_pos rfl] at f10
                            have HR : Hid (O5 w8 (w2.heap.size + 1) l out s ds (gk - 1) (.int .i64 ((j : Int) + 1)) w9) := ⟨j + 1, by go_num, by omega, hch.trans hc9, _, f10, fun t => by
                              rw [← hstep t]
                              unfold upd
                              split
                              · rfl
                              · exact hfe9 t⟩
                            clear hcell ho hf9j hin hout hq hch hf9 hfe9 hstep hn f10 hc9 hsome
                            go_wp2_with fail
                            refine ⟨HR.out, ?_⟩
                            simp [intOf]; omega
                        · have HR : Hid (O3 wz (w2.heap.size + 1) l (gk - 1) v7 wr) := ⟨out ++ [s], by have := HGK.out; simp; omega, HI2.out, HC8.out.trans hch, ⟨f9, hf9, fun t => by rw [hfe9 t]; exact HEND.out j (by omega) t⟩, HS8.out.chg hch (fun k hk hm => by simp at hm; have := HAB.out k hk; omega), HAB.out⟩
                          clear hch hf9 hfe9
                          go_wp2_with fail
                          go_roundg (gk - 1)
                          case measure => omega
                          case rel => exact HR.out
                  · have hv2 : ∃ n : Nat, v2 = .int .i64 n ∧ n ≤ 60 := by
                      rw [HFE3.out s2] at hfs2
                      unfold leftF at hfs2
                      split at hfs2
                      · injection hfs2 with hfs2
                        exact ⟨_, hfs2.symm, Nat.le_trans (leftN_le _ _ _) hlen⟩
                      · cases hfs2
                    obtain ⟨n, rfl, hn60⟩ := hv2
                    have HFS2 := Lib.hid hfs2
                    have HF2' := Lib.hid hfmr2
                    have HC6 := Lib.hid (hcw.trans hc6)
                    have HBB := Lib.hid hbb
                    have HM := Lib.hid (show w6.rangeLeft (w2.heap.size + 1) wq.heap.size < wr.rangeLeft (w2.heap.size + 1) wq.heap.size by rw [hfmr2.left, hfmr.left]; exact hlt2)
                    clear hfs2 hfmr2 hcw hc6 hbb hfmr hlt2
                    cases bb
                    · go_wp2_with fail
                      · have hz0 : n = 0 := by assumption
                        exact ⟨⟨s2, true, cnt2, rfl, rfl, fun _ => ⟨hs2, by rw [HFS2.out, hz0]; rfl⟩, HF2'.out, HC6.out⟩, HM.out⟩
                      · exact ⟨⟨s, false, cnt2, rfl, rfl, HBB.out, HF2'.out, HC6.out⟩, HM.out⟩
                    · go_wp2_with fail
                      · have hz0 : n = 0 := by assumption
                        exact ⟨⟨s2, true, cnt2, rfl, rfl, fun _ => ⟨hs2, by rw [HFS2.out, hz0]; rfl⟩, HF2'.out, HC6.out⟩, HM.out⟩
                      all_goals exact ⟨⟨s, true, cnt2, rfl, rfl, HBB.out, HF2'.out, HC6.out⟩, HM.out⟩
              · have hl3 := hf3.len Try.underlying37
                have hg0 : gk = 0 := by omega
                subst hg0
                have HS := Lib.hid hsl.strs
                have HI := Lib.hid hinv
                have HGK := Lib.hid hgk
                have HC := Lib.hid hch
                clear hgk hinv hch hf3 hfe3 hsl hbk
                go_wp2_with fail
                go_ret2
                exact ⟨HWX3.out _ HC.out, .inr ⟨HG.out, .inr ⟨_, out, rfl, HS.out, HI.out, by have := HGK.out; omega⟩⟩⟩
  · have hne : (checkE l != 0) = true := by simpa using hck
    have HCK := Lib.hid hck
    clear hck h
    go_enter Try.func13, Try.ntmps13
    go_wp2_with fail
    refine C8.out.mono ?_
    rintro e w1 ⟨rfl, hc1⟩
    go_wp2_with fail
    go_ret2
    exact ⟨hc1, .inl ⟨HCK.out, rfl⟩⟩
end Go.Proofs.Ytfdfljcieeccbaa
