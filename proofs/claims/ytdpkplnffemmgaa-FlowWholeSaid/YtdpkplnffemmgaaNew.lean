/- THE WALK of New, and what a queue of flows is in memory. Conditions: the weights are ints. -/
import Derived.Test.YtdpkplnffemmgaaSmall
import Derived.Deep.OwnRows
import Derived.Deep.RegionWith
namespace Go.Proofs.Ytdpkplnffemmgaa
open Go.RowKit
/-- where a queue's parts lie. -/
structure FB where
  fb : Nat
  wb : Nat
  wc : Nat
  eb : Nat
  ec : Nat
/-- a queue of flows in memory. -/
structure FairAt (w : World) (F : FB) (ws es : List Int) (now : Int) (qv : Value) (ts : List Th) : Prop where
  wcell : w.cell? ⟨F.fb, 0, none⟩ = some (.slice (some ⟨F.wb, 0, none⟩) ws.length F.wc)
  ecell : w.cell? ⟨F.fb, 1, none⟩ = some (.slice (some ⟨F.eb, 0, none⟩) ws.length F.ec)
  ncell : w.cell? ⟨F.fb, 2, none⟩ = some (.int .i64 now)
  nfroz : w.frozen? ⟨F.fb, 2, none⟩ = false
  line : LineAt w F.fb 3 qv ts
  wrow : w.ownsRow 0 3 1 (.slice (some ⟨F.wb, 0, none⟩) ws.length F.wc) ws.length (ws.map (Value.int .i64))
  erow : w.ownsRow 0 3 1 (.slice (some ⟨F.eb, 0, none⟩) ws.length F.ec) ws.length (es.map (Value.int .i64))
  few : ws.length ≤ 8
  fw : F.fb ≠ F.wb
  fe : F.fb ≠ F.eb
  we : F.wb ≠ F.eb
  qw : ∀ k, qv.ownBlock = some k → k ≠ F.wb ∧ k ≠ F.eb

theorem FairAt.fbl {w : World} {F : FB} {ws es : List Int} {now : Int} {qv : Value} {ts : List Th} (h : FairAt w F ws es now qv ts) : F.fb < w.heap.size := World.block_lt_of_cell? w _ h.wcell
theorem FairAt.wbl {w : World} {F : FB} {ws es : List Int} {now : Int} {qv : Value} {ts : List Th} (h : FairAt w F ws es now qv ts) : F.wb < w.heap.size := (h.wrow.lt F.wb rfl).2
theorem FairAt.ebl {w : World} {F : FB} {ws es : List Int} {now : Int} {qv : Value} {ts : List Th} (h : FairAt w F ws es now qv ts) : F.eb < w.heap.size := (h.erow.lt F.eb rfl).2
theorem FairAt.elen {w : World} {F : FB} {ws es : List Int} {now : Int} {qv : Value} {ts : List Th} (h : FairAt w F ws es now qv ts) : es.length = ws.length := by have := h.erow.1; simpa using this

theorem FairAt.chg {l : List Nat} {w w' : World} {F : FB} {ws es : List Int} {now : Int} {qv : Value} {ts : List Th} (h : FairAt w F ws es now qv ts) (hc : Chg l w w')
    (h1 : F.fb ∉ l) (h2 : F.wb ∉ l) (h3 : F.eb ∉ l) (h4 : ∀ k, qv.ownBlock = some k → k ∉ l) : FairAt w' F ws es now qv ts :=
  ⟨hc.cell h.wcell h1, hc.cell h.ecell h1, hc.cell h.ncell h1, hc.frz h.nfroz h.fbl h1, h.line.chg hc h1 h4,
   hc.row h.wrow (fun k hk => by simp [Value.ownBlock] at hk; subst hk; exact h2), hc.row h.erow (fun k hk => by simp [Value.ownBlock] at hk; subst hk; exact h3), h.few, h.fw, h.fe, h.we, h.qw⟩

theorem new_large (a : Option Addr) (n cap : Nat) (w : World) (hn : 8 < n) (hc : n ≤ 4611686018427387904) :
   Calls Try.prog 6 #[.slice a n cap] w fun e w' => e = .returned (.tuple #[.pointer none, .int .i64 2]) ∧ w = w' := by
  go_enter Try.func6, Try.ntmps6
  go_wp2_with fail
  go_ret2
  exact ⟨rfl, rfl⟩
theorem new_none (a : Option Addr) (cap : Nat) (w : World) :
   Calls Try.prog 6 #[.slice a 0 cap] w fun e w' => e = .returned (.tuple #[.pointer none, .int .i64 1]) ∧ w = w' := by
  go_enter Try.func6, Try.ntmps6
  go_wp2_with fail
  go_ret2
  exact ⟨rfl, rfl⟩
theorem new_bad (b off n cap : Nat) (ws : List Int) (w : World) (hn : ws.length = n) (h1 : 1 ≤ n) (h8 : n ≤ 8) (hc : n ≤ cap) (hcap : cap ≤ 9223372036854775807)
   (hcell : ∀ i, i < n → w.cell? ⟨b, off + i, none⟩ = some (.int .i64 (ws.getD i 0))) (hb : ws.all wOk = false) :
   Calls Try.prog 6 #[.slice (some ⟨b, off, none⟩) n cap] w fun e w' => e = .returned (.tuple #[.pointer none, .int .i64 1]) ∧ w = w' := by
  have CC := Lib.hid (contains_any b off n cap ws w hn hc hcap hcell)
  rw [hb] at CC
  have h0 : ((n : Int) == 0) = false := by simp; omega
  clear hn hcell hb
  go_enter Try.func6, Try.ntmps6
  go_wp2_with fail
  refine CC.out.mono ?_
  rintro e w' ⟨rfl, rfl⟩
  go_wp2_with fail
  go_ret2
  exact ⟨rfl, rfl⟩

def Made (ws : List Int) (w : World) (e : Ending) (w' : World) : Prop :=
  ∃ F : FB, e = .returned (.tuple #[.pointer (some ⟨F.fb, 0, none⟩), .int .i64 0]) ∧ FairAt w' F ws (List.replicate ws.length 0) 0 (.slice none 0 0) [] ∧ Chg [] w w' ∧ w.heap.size ≤ F.fb ∧ w.heap.size ≤ F.wb ∧ w.heap.size ≤ F.eb
theorem made_end (ws : List Int) (w w1 : World) (n wb wc eb : Nat) (hn : ws.length = n) (h8 : n ≤ 8) (hc : Chg [] w w1) (h1 : w.heap.size ≤ wb) (h2 : w.heap.size ≤ eb) (hne : wb ≠ eb)
    (hw : w1.ownsRow 0 3 1 (.slice (some ⟨wb, 0, none⟩) n wc) n (ws.map (Value.int .i64))) (he : w1.ownsRow 0 3 1 (.slice (some ⟨eb, 0, none⟩) n n) n (madeCells #[.int .i64 0] n).toList) :
    Made ws w (.returned (.tuple #[.pointer (some ⟨w1.heap.size, 0, none⟩), .int .i64 0])) ((w1.alloc (.cells #[.slice (some ⟨wb, 0, none⟩) n wc, .slice (some ⟨eb, 0, none⟩) n n, .int .i64 0, .slice none 0 0] 46))) := by
  subst hn
  have a1 := (hw.lt wb rfl).2
  have a2 := (he.lt eb rfl).2
  refine ⟨⟨w1.heap.size, wb, wc, eb, ws.length⟩, rfl, ⟨by simp, by simp, by simp, by simp, ⟨by simp, by simp, World.ownsRow_nil _ _ _ _, by simp [Value.ownBlock]⟩, hw.alloc _, ?_, h8, by simp; omega, by simp; omega, hne, by simp [Value.ownBlock]⟩, hc.alloc _, hc.size, h1, h2⟩
  have := he.alloc (.cells #[.slice (some ⟨wb, 0, none⟩) ws.length wc, .slice (some ⟨eb, 0, none⟩) ws.length ws.length, .int .i64 0, .slice none 0 0] 46)
  rw [toList_madeCells_one] at this
  simpa using this
set_option maxHeartbeats 400000 in
theorem new_good (b off n cap : Nat) (ws : List Int) (w : World) (hn : ws.length = n) (h1 : 1 ≤ n) (h8 : n ≤ 8) (hc : n ≤ cap) (hcap : cap ≤ 9223372036854775807) (hbl : b < w.heap.size)
   (hcell : ∀ i, i < n → w.cell? ⟨b, off + i, none⟩ = some (.int .i64 (ws.getD i 0))) (hb : ws.all wOk = true) :
   Calls Try.prog 6 #[.slice (some ⟨b, off, none⟩) n cap] w (Made ws w) := by
  have CC := Lib.hid (contains_any b off n cap ws w hn hc hcap hcell)
  rw [hb] at CC
  have h0 : ((n : Int) == 0) = false := by simp; omega
  have hmk := fun W => run_make_row' (P := Try.prog) 22 3 (.int .i64 0) 8 Try.underlying22 info3 rfl .i64 .i64 n (by omega) (by omega) W
  have CL : Hid (∀ W, Chg [] w W → Calls Try.prog 14 #[.slice (some ⟨b, off, none⟩) n cap] W (Cloned ws n W)) := fun W hW => clone_any b off n cap ws W hn hc h8 (Nat.lt_of_lt_of_le hbl hW.size) (fun i hi => hW.cell (hcell i hi) (by simp))
  have HE := Lib.hid (fun w1 wb wc eb => made_end ws w w1 n wb wc eb hn h8)
  have HWN := Lib.hid (fun (W W' : World) (v' : Value) (h : W'.ownsRow W.heap.size 3 1 v' n (ws.map (Value.int .i64))) => (show ∃ g c, v' = .slice (some ⟨g, 0, none⟩) n c ∧ W.heap.size ≤ g from by
    rcases h.2 with ⟨rfl, h0'⟩ | ⟨g, c, cur, rfl, hg, _⟩
    · omega
    · exact ⟨g, c, rfl, hg⟩))
  clear hn hcell hb
  go_enter Try.func6, Try.ntmps6
  go_wp2_with fail
  refine CC.out.mono ?_
  rintro e w' ⟨rfl, rfl⟩
  go_wp2_with fail
  go_region_with (go_at_call 14; refine (CL.out _ ?_).mono ?_; (first | exact (Chg.refl [] w).drew | exact ((Chg.refl [] w).alloc _).drew); rintro e w1 ⟨v', rfl, hown, hch⟩; obtain ⟨g, wc, rfl, hge⟩ := HWN.out _ _ _ hown; have HOW := Lib.hid hown; have HCH := Lib.hid hch; clear hown hch)
  all_goals go_wp2
  all_goals go_ret2
  · have hge' : w.heap.size ≤ g := hge
    have hch : Chg [] w w1 := ((Chg.refl [] w).drew).trans HCH.out
    have hrow := ownsRow_mono HOW.out (Nat.zero_le _)
    have hg1 := (HOW.out.lt g rfl).2
    have h := HE.out (w1.alloc (.cells (madeCells #[.int .i64 0] n) 3)) g wc w1.heap.size (hch.alloc _) hge' hch.size (by omega) (hrow.alloc _)
      (World.ownsRow_lit (base := 0) (e := 3) (size := 1) w1 (madeCells #[.int .i64 0] n) n (Nat.zero_le _) (by unfold maxLen; omega) (by rw [size_madeCells]; simp))
    rw [show (w1.alloc (.cells (madeCells #[.int .i64 0] n) 3)).heap.size = w1.heap.size + 1 from by simp] at h
    exact h
  · have hge' : w.heap.size + 1 ≤ g := by simpa using hge
    have hch0 : Chg [] w (w.alloc (.cells (madeCells #[.int .i64 0] n) 3)).drew := ((Chg.refl [] w).alloc _).drew
    have hch : Chg [] w w1 := hch0.trans HCH.out
    have hrow := ownsRow_mono HOW.out (Nat.zero_le _)
    have hmr := World.ownsRow_lit (base := 0) (e := 3) (size := 1) w (madeCells #[.int .i64 0] n) n (Nat.zero_le _) (by unfold maxLen; omega) (by rw [size_madeCells]; simp)
    have hmr1 := HCH.out.row (w := (w.alloc (.cells (madeCells #[.int .i64 0] n) 3)).drew) hmr (by simp)
    exact HE.out w1 g wc w.heap.size hch (by omega) (Nat.le_refl _) (by omega) hrow hmr1
end Go.Proofs.Ytdpkplnffemmgaa
