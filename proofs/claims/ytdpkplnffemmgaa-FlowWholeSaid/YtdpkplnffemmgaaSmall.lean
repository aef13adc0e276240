/- THE WALKS of Rest, New's own test, IndexFunc, ContainsFunc and Clone. Conditions: the slice's cells are ints. -/
import Derived.Test.YtdpkplnffemmgaaHp
namespace Go.Proofs.Ytdpkplnffemmgaa
open Go.RowKit
theorem rest_any (n m : Int) (w : World) (hm : 1 ≤ m) (hm2 : m ≤ 9223372036854775807) (h0 : -9223372036854775808 ≤ n) (h1 : n ≤ 9223372036854775807) :
   Calls Try.prog 5 #[.int .i64 n, .int .i64 m] w fun e w' => e = .returned (.int .i64 (n % m)) ∧ w = w' := by
  have e1 : 0 ≤ n → n.tmod m = n % m := fun h => Int.tmod_eq_emod_of_nonneg h
  have e2 : n < 0 → n.tmod m = -((-n) % m) := fun h => by
    have : n.tmod m = -((-n).tmod m) := by rw [Int.neg_tmod]; omega
    rw [this, Int.tmod_eq_emod_of_nonneg (by omega)]
  have hr0 := Int.emod_nonneg (-n) (show m ≠ 0 by omega)
  have hr1 := Int.emod_lt_of_pos (-n) (show 0 < m by omega)
  have hq0 := Int.emod_nonneg n (show m ≠ 0 by omega)
  have hq1 := Int.emod_lt_of_pos n (show 0 < m by omega)
  have hm0 : ¬ m = 0 := by omega
  by_cases hn : 0 ≤ n
  · clear e1 e2 hr0 hr1
    go_enter Try.func5, Try.ntmps5
    go_wp2
    go_ret
    exact ⟨rfl, rfl⟩
  · have e2' := e2 (by omega)
    have hneg := Int.emod_add_mul_ediv n m
    have hfin : (n.tmod m = 0 → n % m = 0) ∧ (n.tmod m < 0 → n % m = n.tmod m + m) := by
      have h3 : n % m = n.tmod m ∨ n % m = n.tmod m + m := by
        rw [Int.tmod_eq_emod]
        have : ¬ (0 ≤ n ∨ m ∣ n) ∨ (0 ≤ n ∨ m ∣ n) := by omega
        split
        · left; omega
        · right; have : (m.natAbs : Int) = m := by omega
          omega
      constructor
      · intro h0; rcases h3 with h3 | h3 <;> omega
      · intro h0; rcases h3 with h3 | h3 <;> omega
    have hlo : -m < n.tmod m := by omega
    have hhi : n.tmod m ≤ 0 := by omega
    have HF := Lib.hid hfin
    clear hfin hneg e2' e1 e2 hr0 hr1 hq0 hq1
    obtain ⟨r, hr⟩ : ∃ r, n.tmod m = r := ⟨_, rfl⟩
    rw [hr] at HF hlo hhi
    by_cases hz : r = 0
    · have HF0 := Lib.hid (HF.out.1 hz)
      clear HF
      subst hz
      go_enter Try.func5, Try.ntmps5
      go_wp2
      go_ret
      exact ⟨by rw [HF0.out]; rfl, rfl⟩
    · have hlt : r < 0 := by omega
      clear hz
      go_enter Try.func5, Try.ntmps5
      go_wp2
      go_ret
      exact ⟨by rw [HF.out.2 hlt]; rfl, rfl⟩
def wOk (x : Int) : Bool := !(decide (x < 1) || decide (10 < x))
theorem bad_any (x : Int) (w : World) :
   Calls Try.prog 13 #[.int .i64 x] w fun e w' => e = .returned (.bool (!wOk x)) ∧ w = w' := by
  by_cases h : x < 1
  · have h1 : decide (x < 1) = true := by simpa using h
    go_enter Try.func13, Try.ntmps13
    go_wp2
    go_ret
    exact ⟨by simp [wOk, h], rfl⟩
  · have h1 : decide (x < 1) = false := by simpa using h
    go_enter Try.func13, Try.ntmps13
    go_wp2
    go_ret
    exact ⟨by simp [wOk]; omega, rfl⟩

def IRel (ws : List Int) (v : Value) : Prop := ∃ k : Nat, v = .int .i64 k ∧ k ≤ ws.length ∧ (ws.take k).all wOk = true
def IPost (ws : List Int) (w : World) (e : Ending) (w' : World) : Prop := (∃ k : Int, e = .returned (.int .i64 k) ∧ decide (0 ≤ k) = !ws.all wOk ∧ -1 ≤ k ∧ k ≤ ws.length) ∧ w = w'
theorem take_all (ws : List Int) (k : Nat) (h : k < ws.length) (x : Int) (hx : ws.getD k 0 = x) : (ws.take (k + 1)).all wOk = ((ws.take k).all wOk && wOk x) := by
  rw [List.take_succ_eq_append_getElem h, List.all_append]
  have : ws[k] = x := by rw [← hx]; simp [List.getD, h]
  simp [this]
theorem all_bad (ws : List Int) (k : Nat) (h : k < ws.length) (hb : wOk (ws.getD k 0) = false) : ws.all wOk = false := by
  have hm : ws.getD k 0 ∈ ws := by simp [List.getD, h]
  cases ha : ws.all wOk
  · rfl
  · rw [List.all_eq_true.1 ha _ hm] at hb; cases hb
set_option maxHeartbeats 400000 in
theorem index_any (b off n cap : Nat) (ws : List Int) (w : World) (hn : ws.length = n) (hc : n ≤ cap) (hcap : cap ≤ 9223372036854775807)
   (hcell : ∀ i, i < n → w.cell? ⟨b, off + i, none⟩ = some (.int .i64 (ws.getD i 0))) :
   Calls Try.prog 17 #[.slice (some ⟨b, off, none⟩) n cap, .func (.func 13) #[] #[]] w (IPost ws w) := by
  have HN := Lib.hid hn
  have H0 : Hid (IRel ws (.int .i64 0)) := ⟨0, rfl, by omega, by simp⟩
  clear hn
  have HC := Lib.hid hcell
  clear hcell
  go_enter Try.func17, Try.ntmps17
  go_wp2_with fail
  go_loop [8] (fun v => IRel ws v) (fun v => n - (intOf v).toNat)
  case atStart => exact H0.out
  case round =>
    obtain ⟨k, rfl, hk, hall⟩ := hrel
    have hk' : k ≤ n := by have := HN.out; omega
    have HA := Lib.hid hall
    clear hall hk
    by_cases hlt : k < n
    · have g := HC.out k hlt
      generalize hx : ws.getD k 0 = x at *
      have HX := Lib.hid hx
      clear hx
      have CB := Lib.hid (bad_any x w)
      cases hb : wOk x
      · rw [hb] at CB
        have HB := Lib.hid hb
        clear hb
        go_wp2_with fail
        refine CB.out.mono ?_
        rintro e w' ⟨rfl, rfl⟩
        go_wp2_with fail
        go_ret
        have hl : k < ws.length := by have := HN.out; omega
        have hbad := all_bad ws k hl (by rw [HX.out]; exact HB.out)
        exact ⟨⟨k, rfl, by rw [hbad]; simp, by omega, by have := HN.out; omega⟩, rfl⟩
      · rw [hb] at CB
        have HB := Lib.hid hb
        clear hb
        go_wp2_with fail
        refine CB.out.mono ?_
        rintro e w' ⟨rfl, rfl⟩
        go_wp2_with fail
        go_round
        case rel =>
          have hl : k < ws.length := by have := HN.out; omega
          exact ⟨k + 1, by go_num, by omega, by rw [take_all ws k hl x HX.out, HA.out, HB.out]; rfl⟩
        case measure => simp [intOf]; omega
    · go_wp2_with fail
      go_ret
      have ha : ws.all wOk = true := by
        have := HA.out
        rw [List.take_of_length_le (by have := HN.out; omega)] at this
        exact this
      exact ⟨⟨-1, rfl, by rw [ha]; rfl, by omega, by omega⟩, rfl⟩
theorem contains_any (b off n cap : Nat) (ws : List Int) (w : World) (hn : ws.length = n) (hc : n ≤ cap) (hcap : cap ≤ 9223372036854775807)
   (hcell : ∀ i, i < n → w.cell? ⟨b, off + i, none⟩ = some (.int .i64 (ws.getD i 0))) :
   Calls Try.prog 12 #[.slice (some ⟨b, off, none⟩) n cap, .func (.func 13) #[] #[]] w fun e w' => e = .returned (.bool (!ws.all wOk)) ∧ w = w' := by
  have CI := Lib.hid (index_any b off n cap ws w hn hc hcap hcell)
  clear hn hcell
  go_enter Try.func12, Try.ntmps12
  go_wp2_with fail
  refine CI.out.mono ?_
  rintro e w' ⟨⟨k, rfl, hd, hk1, hk2⟩, rfl⟩
  have HD := Lib.hid hd
  clear hd
  go_wp2_with fail
  go_ret
  exact ⟨by rw [← HD.out]; rfl, rfl⟩

theorem info3 : (Try.prog.info? 3).map (fun i => (i.zero, i.size, i.bytes)) = some (some (.int .i64 0), 1, 8) := by kernel_rfl
def Cloned (ws : List Int) (n : Nat) (w : World) (e : Ending) (w' : World) : Prop :=
  ∃ v', e = .returned v' ∧ w'.ownsRow w.heap.size 3 1 v' n (ws.map (Value.int .i64)) ∧ Chg [] w w'
set_option maxHeartbeats 400000 in
theorem clone_any (b off n cap : Nat) (ws : List Int) (w : World) (hn : ws.length = n) (hc : n ≤ cap) (hn8 : n ≤ 8) (hb : b < w.heap.size)
   (hcell : ∀ i, i < n → w.cell? ⟨b, off + i, none⟩ = some (.int .i64 (ws.getD i 0))) :
   Calls Try.prog 14 #[.slice (some ⟨b, off, none⟩) n cap] w (Cloned ws n w) := by
  obtain ⟨i0, hi, hz0, hz1, hz2⟩ := info_parts info3
  have hnil := fun w a n c n' c' => Lib.run_eql_slice_nil (P := Try.prog) w 22 3 a n c n' c' Try.underlying22
  have HW := Lib.hid (World.ownsRow_lit (base := w.heap.size) (e := 3) (size := 1) w #[] 0 (Nat.le_refl _) (by unfold maxLen; omega) (by simp))
  have hws : (ws.map (Value.int .i64)).length = n * 1 := by simp [hn]
  have hcs : ∀ (j : Nat) (u : Value), (ws.map (Value.int .i64))[j]? = some u → (w.alloc (.cells #[] 3)).cell? ((⟨b, off, none⟩ : Addr).add j) = some u := by
    intro j u hu
    rw [Addr.add_lit]
    have hj : j < n := by have := (List.getElem?_eq_some_iff.1 hu).1; simpa [hn] using this
    rw [World.cell?_alloc_past _ _ _ hb, hcell j hj]
    rw [← hu]; simp [List.getD, show j < ws.length by omega]
  have hone : ∀ u ∈ ws.map (Value.int .i64), u.oneCell' = true := ints_oneCell _ _
  have HS := Lib.hid hws
  have HCS := Lib.hid hcs
  have HO := Lib.hid hone
  clear hn hcell hws hcs hone
  go_enter Try.func14, Try.ntmps14
  go_wp2_with (at_builtin; refine wpList_app rfl (.tmp 5) (.tmp 6) 22 rfl w.heap.size 3 i0 (.int .i64 0) 1 8 Try.underlying22 hi hz0 hz1 hz2 rfl (by decide) (.slice (some ⟨w.heap.size, 0, none⟩) 0 0) 0 [] rfl HW.out ⟨b, off, none⟩ n cap (ws.map (Value.int .i64)) rfl HS.out HCS.out HO.out (by unfold maxLen; omega) (by omega) (by simp) ?_)
  intro v' w1 hown hgr _ _
  have HOW := Lib.hid hown
  have HGR := Lib.hid hgr
  clear hown hgr
  go_wp2
  go_ret
  refine ⟨v', rfl, ?_, ?_⟩
  · have := HOW.out; simpa using this
  · exact ((Chg.refl [] w).alloc _).grown HGR.out (fun k hk => by simp [Value.ownBlock] at hk; right; omega)
end Go.Proofs.Ytdpkplnffemmgaa
