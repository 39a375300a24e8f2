/- Texts put into one by pack.py: MpD PvN PvC. -/
import Derived.Test.YtpklkefnmoaaaaaGreatDoorPkH
import Derived.Test.YtpklkefnmoaaaaaGreatDoorPkK
import Derived.Test.YtpklkefnmoaaaaaGreatDoorPkI
/- The document's tree: Append walked. -/
namespace Go.Proofs.YtpklkefnmoaaaaaGreatDoor
open Go.RowKit
set_option linter.unusedVariables false
set_option linter.unusedSimpArgs false

structure RaL (w wr : World) (rb : Nat) (r : RT) (fin : NV) (h S : Nat) (d' : DS) (lf : Array Value) : Prop where
  ra : RaI w wr rb r fin h d' lf
  box : wr.heap[S]? = some (.cells #[.int .u8 h, .int .u64 (r.n / 2 ^ h : Nat)] 178 (0, 0))
  Sf : S ∉ RT.foot { r with d := d' } rb
  Sw : w.heap.size ≤ S
/-- Behind a push, ahead of the next spot. -/
structure RaM (w wr : World) (rb : Nat) (r : RT) (fin : NV) (h S : Nat) (d' : DS) (lf : Array Value) : Prop where
  ra : RaI w wr rb r fin (h + 1) d' lf
  box : wr.heap[S]? = some (.cells #[.int .u8 h, .int .u64 (r.n / 2 ^ h : Nat)] 178 (0, 0))
  Sf : S ∉ RT.foot { r with d := d' } rb
  Sw : w.heap.size ≤ S
theorem RaL.push {w wr W w2 : World} {rb h S : Nat} {r : RT} {fin : NV} {d' : DS} {lf x : Array Value} {e : Ending} {v : Value} (hA : RaL w wr rb r fin h S d' lf) (hlt : h < t1 r.n) (hW : Chg [] wr W)
    (hx : x = nodeA r.wd ((vd d'.ns).get (r.d.ns.length + h - (2 ^ (h + 1) - 1))) lf) (hxi : IsHash x) (hp : DP W r.c d' (d'.ns ++ [some (x, 0)]) v e w2) :
    e = .returned v ∧ ∃ d2, RaM w w2 rb r fin h S d2 x := by
  obtain ⟨he, d2, h1⟩ := hA.ra.next hlt hW hx hxi hp
  obtain ⟨_, d3, q1, q2, q3, q4⟩ := hp
  have hSl := blk_lt hA.box
  have hSd : S ∉ d'.foot r.c := fun hk => hA.Sf (by simp only [RT.foot, List.mem_cons]; exact .inr hk)
  obtain ⟨he', d2', h1'⟩ := hA.ra.next hlt hW hx hxi ⟨he, d3, q1, q2, q3, q4⟩
  refine ⟨he, d3, ?_⟩
  have h0 := (hA.ra.rt.chg0 hW).mvD (r := { r with d := d' }) q1 q4
  have hs := hW.size
  have hsw := hA.ra.chg.size
  refine ⟨?_, q4.1.at (hW.at hA.box (by simp)) hSd, fun hm => ?_, hA.Sw⟩
  · refine ⟨h0, (hA.ra.chg.nil_trans hW).trans q4.1 (fun k hk => hA.ra.new k hk), fun k hk => ?_, by rw [q2, List.length_append, hA.ra.len]; simp; omega, fun p => by rw [q2, pd_push]; exact hA.ra.pin p, ?_, hxi, ?_, by omega⟩
    · rcases q4.2 k hk with q | q
      · exact hA.ra.new k q
      · right; omega
    · rw [q2, vd_push]
      have e1 : r.d.ns.length + (h + 1) = (vd d'.ns).n := by show _ = d'.ns.length; rw [hA.ra.len]; omega
      rw [e1]
      exact NV.push_last _ x
    · have hc := hA.ra.cl
      rw [show t1 r.n - h = (t1 r.n - (h + 1)) + 1 from by omega] at hc
      rw [q2, vd_push, ← hc, hx]
      have e2 : (vd d'.ns).n - 1 = r.d.ns.length + h := by show d'.ns.length - 1 = _; rw [hA.ra.len]; omega
      rw [climb, e2]
  · simp only [RT.foot, List.mem_cons] at hm
    rcases hm with hm | hm
    · exact hA.Sf (by simp [RT.foot, hm])
    · rcases q4.2 S hm with q | q
      · exact hSd q
      · omega
theorem RaM.spot {w wr W : World} {rb h S : Nat} {r : RT} {fin : NV} {d' : DS} {lf : Array Value} (hA : RaM w wr rb r fin h S d' lf) (hW : Chg [S] wr W) (hb : W.heap[S]? = some (.cells #[.int .u8 (h + 1 : Nat), .int .u64 (r.n / 2 ^ (h + 1) : Nat)] 178 (0, 0))) :
    RaL w W rb r fin (h + 1) S d' lf := by
  have hf : ∀ k ∈ RT.foot { r with d := d' } rb, k ∉ [S] := fun k hk hm => hA.Sf (by simp at hm; subst hm; exact hk)
  refine ⟨⟨hA.ra.rt.chg hW hf, hA.ra.chg.trans hW (fun k hk => by simp at hk; subst hk; exact .inr hA.Sw), hA.ra.new, hA.ra.len, hA.ra.pin, hA.ra.last, hA.ra.lh, hA.ra.cl, hA.ra.h⟩, hb, hA.Sf, hA.Sw⟩
theorem RaL.first {w w2 w3 : World} {rb : Nat} {r : RT} {fin : NV} {d' : DS} {lf : Array Value} (hA : RaI w w2 rb r fin 0 d' lf) (hc : Chg [] w2 w3) {W : World} (hW : W = w3.alloc (.cells #[.int .u8 0, .int .u64 r.n] 178)) : RaL w W rb r fin 0 w3.heap.size d' lf := by
  subst hW
  have hc2 : Chg [] w2 (w3.alloc (.cells #[.int .u8 0, .int .u64 r.n] 178)) := hc.alloc _
  refine ⟨⟨hA.rt.chg0 hc2, hA.chg.nil_trans hc2, hA.new, hA.len, hA.pin, hA.last, hA.lh, hA.cl, hA.h⟩, ?_, fun hm => ?_, by have := hA.chg.size; have := hc.size; omega⟩
  · have := blk_new w3 (.cells #[.int .u8 0, .int .u64 r.n] 178)
    rw [this, Nat.pow_zero, Nat.div_one]
    rfl
  · have := hA.rt.lt _ hm
    have := hc.size
    omega
set_option maxRecDepth 100000 in
set_option maxHeartbeats 8000000 in
theorem r6app_calls (w : World) (rb : Nat) (r : RT) (leaf : Array Value) (hr : RtIs w rb r) (hl : IsHash leaf) (hn : r.n < 1000000) (hlen : r.d.ns.length = nodesN r.n) : Calls Tryz.prog 82 #[.pointer (some ⟨rb, 0, none⟩), .agg leaf] w (RApP w rb r leaf) := by
  have hb := blk_lt hr.mem
  have c2 := blk_cell hr.mem 2 rfl
  have hls := hl.1
  have hnb : nodesN r.n ≤ 2 * r.n := nodes_le _
  have ht1 := t1_le r.n (by omega)
  have htp := t1_pow_le r.n
  have hW0 : Chg [] w (w.alloc (.cells leaf 36)).drew := ((Chg.refl _ _).alloc _).drew
  have hpush := rpush_calls r.c r.d leaf (w.alloc (.cells leaf 36)).drew (hr.st.chg0 hW0) hl (by omega)
  have hfst := fun (e : Ending) (w2 : World) (hp : DP (w.alloc (.cells leaf 36)).drew r.c r.d (r.d.ns ++ [some (leaf, 0)]) (.int .u64 r.d.ns.length) e w2) => RaI.first hr hW0 hl hp
  have hsp : ∀ h, h ≤ t1 r.n → ∀ W, Calls Tryz.prog 166 #[.int .u64 (r.d.ns.length + h : Nat)] W (SpotP W h (r.n / 2 ^ h)) := fun h hh W => by rw [hlen]; exact r3spot_calls r.n h (by omega) hh W
  have hsi : ∀ h, h < t1 r.n → ∀ W, Calls Tryz.prog 167 #[.int .u64 (r.d.ns.length + h : Nat)] W (Res W [] (.tuple #[.int .u64 (r.d.ns.length + h - (2 ^ (h + 1) - 1) : Nat), .bool true])) := fun h hh W => by rw [hlen]; exact r3sib_calls r.n h (by omega) hh W
  have hsp0 : ∀ W, Calls Tryz.prog 166 #[.int .u64 (r.d.ns.length : Nat)] W (SpotP W 0 r.n) := fun W => by
    have := hsp 0 (Nat.zero_le _) W
    rwa [Nat.add_zero, Nat.pow_zero, Nat.div_one] at this
  have hend := t1_end r.n
  have hbit := t1_bit r.n
  have hNb : r.d.ns.length ≤ 2000000 := by omega
  have HF := Lib.hid hfst
  have HP := Lib.hid hpush
  have HSP := Lib.hid hsp
  have HSI := Lib.hid hsi
  have HE := Lib.hid hend
  have HB := Lib.hid hbit
  have HR := Lib.hid hr
  clear hfst hpush hsp hsi hend hbit hlen hnb hr
  go_enter Tryz.func82, Tryz.ntmps82
  go_upto_region 1 with (fail)
  go_cut [5] from 10 to 15 (fun v5 wx => v5 = .int .u64 r.d.ns.length ∧ ∃ d', RaI w wx rb r (appV r.wd r.n (vd r.d.ns) leaf) 0 d' leaf)
  case first =>
    go_region_with (go_at_call 165; refine HP.out.mono ?_; intro e w2 hp; obtain ⟨he, hA⟩ := HF.out e w2 hp; subst he)
    all_goals
      go_wp2
      go_meet
      exact ⟨rfl, hA⟩
  case rest =>
  obtain ⟨rfl, d0, hA0⟩ := hcut
  clear HP HF c2 hW0
  go_wp2_with (go_at_call 166; refine (hsp0 _).mono ?_; rintro e w3 ⟨rfl, hc3⟩)
  have hL0 := RaL.first hA0 hc3 rfl
  generalize w3.heap.size = S at *
  generalize w3.alloc _ = w4 at *
  clear hA0 hc3 hsp0
  obtain ⟨fin, hfin⟩ : ∃ fin, fin = appV r.wd r.n (vd r.d.ns) leaf := ⟨_, rfl⟩
  rw [← hfin] at hL0
  have HFIN := Lib.hid hfin
  clear hfin
  go_loopg [5] (t1 r.n) (fun g pp wx => ∃ (h : Nat) (d' : DS) (lf : Array Value), g = t1 r.n - h ∧ pp = .int .u64 (r.d.ns.length + h : Nat) ∧ RaL w wx rb r fin h S d' lf)
  case atStart => exact ⟨0, d0, leaf, rfl, rfl, hL0⟩
  case round =>
    clear hL0
    obtain ⟨h, d', lf, hg, rfl, hA⟩ := hrel
    have s1 := blk_cell hA.box 1 rfl
    have hSl := blk_lt hA.box
    have k0 := blk_cell hA.ra.rt.mem 0 rfl
    have k1 := blk_cell hA.ra.rt.mem 1 rfl
    have k2 := blk_cell hA.ra.rt.mem 2 rfl
    have f1 := blk_frozen hA.ra.rt.mem 1
    have hbr := blk_lt hA.ra.rt.mem
    simp only at k0 k1 k2
    by_cases hlt : h < t1 r.n
    · have hbt : (((r.n / 2 ^ h : Nat) : Int) % 2 == 1) = true := by rw [beq_iff_eq]; have := HB.out h hlt; omega
      have hst := hA.ra.rt.st
      simp only at hst
      have hlen' := hA.ra.len
      have j1 := hst.c1
      have hcl := hst.blt
      have hsib := HSI.out h hlt
      have hsp := HSP.out (h + 1) (by omega)
      have hp1 := Nat.pow_le_pow_right (show 0 < 2 from by omega) (show h + 1 ≤ t1 r.n from hlt)
      have hpp := Nat.two_pow_pos (h + 1)
      obtain ⟨P, hP⟩ : ∃ P, r.d.ns.length + h = P := ⟨_, rfl⟩
      obtain ⟨q, hq⟩ : ∃ q, P - (2 ^ (h + 1) - 1) = q := ⟨_, rfl⟩
      have hPL : P < d'.ns.length := by omega
      have hqL : q < d'.ns.length := by omega
      obtain ⟨g, hA1, hne, hatP⟩ := hst.at hPL
      obtain ⟨g', hA2, _, hatQ⟩ := hst.at hqL
      obtain rfl : g = g' := by rw [hA1] at hA2; injection hA2 with e; injection e
      have hlast : dnH d'.ns[P] = lf := by
        have := hA.ra.last
        rw [hP, vd_get, List.getElem?_eq_getElem hPL] at this
        exact this
      have hrP := hatP.hash
      have hrQ := hatQ.hash
      rw [hlast] at hrP
      have hlf := hA.ra.lh
      have hX : IsHash (dnH d'.ns[q]) := (hst.ok _ (List.getElem_mem hqL)).is.1
      have hXe : dnH d'.ns[q] = (vd d'.ns).get q := by rw [vd_get, List.getElem?_eq_getElem hqL]; rfl
      have hgl := hatP.lt
      obtain ⟨X, hXX⟩ : ∃ X, dnH d'.ns[q] = X := ⟨_, rfl⟩
      rw [hXX] at hX hXe hrQ
      have hno := fun (W : World) => r2nodeA_calls W r.wd hX hlf
      have hxi := nodeA_is r.wd hX hlf
      have hnx := fun (W : World) (e : Ending) (w2 : World) (hW : Chg [] wr W) (hp : DP W r.c d' (d'.ns ++ [some (nodeA r.wd X lf, 0)]) (.int .u64 d'.ns.length) e w2) => hA.push hlt hW (by rw [hP, hq, ← hXe]) hxi hp
      have hpu := fun (W : World) (hW : Chg [] wr W) => rpush_calls r.c d' (nodeA r.wd X lf) W (hst.chg0 hW) hxi (by omega)
      have hlL : d'.ns.length = r.d.ns.length + (h + 1) := by omega
      rw [← hlL] at hsp
      rw [hP, hq] at hsib
      rw [hP]
      have HPU := Lib.hid hpu
      have HNX := Lib.hid hnx
      have HG := Lib.hid hg
      have HLL := Lib.hid hlL
      have hx1 := hxi.1
      have hx2 := hxi.one
      have hl1 := hlf.1
      have hX1 := hX.1
      rw [hA1] at j1
      clear hpu hnx hg hst hatP hatQ hlast hXe hXX hA2 hp1 hpp hq hP hlen' hA1 hlL hxi hX hlf
      generalize nodeA r.wd X lf = x at *
      generalize r.n / 2 ^ h = sh at *
      obtain ⟨L, hL⟩ : ∃ L, d'.ns.length = L := ⟨_, rfl⟩
      rw [hL] at j1 hPL hqL hsp HPU HNX HLL
      have hLb : L ≤ 4000000 := by have := HLL.out; omega
      clear hL
      go_upto_region 5 with (go_at_call 167; refine (hsib _).mono ?_; rintro e w5 ⟨rfl, hc5⟩)
      have m0 := (hc5.cell (p := ⟨rb, 0, none⟩) hbr (by simp)).trans k0
      have m2 := (hc5.cell (p := ⟨rb, 2, none⟩) hbr (by simp)).trans k2
      have n1 := (hc5.cell (p := ⟨r.c, 1, none⟩) hcl (by simp)).trans j1
      have rP := rng?_chg hc5 hrP (by omega) (by simp)
      have rQ := rng?_chg hc5 hrQ (by omega) (by simp)
      have hb5 := Nat.lt_of_lt_of_le hbr hc5.size
      have hcl5 := Nat.lt_of_lt_of_le hcl hc5.size
      have hg5 := Nat.lt_of_lt_of_le hgl hc5.size
      clear k0 k1 j1 hrP hrQ hsib s1 f1
      go_cut [5] from 30 to 61 (fun v5 wx => v5 = .int .u64 L ∧ ∃ d2 lf2, RaM w wx rb r fin h S d2 lf2)
      case first =>
        have hno5 : ∀ W, Chg [] w5 W → Calls Tryz.prog 160 #[.int .i64 r.wd, .agg X, .agg lf] W (Res W [] (.agg x)) := fun W _ => hno W
        refine wp_region_quiet_tail 31 (by kernel_rfl) (by kernel_rfl) ?_
        simp only [List.take_succ_cons, List.take_zero, List.drop_succ_cons, List.drop_zero]
        repeat (any_goals (go_big_quiet_step ((go_at_call 160; exact rg_of hno5 _ _))))
        refine wpQuiet_nil ?_
        rintro w6 ⟨r6, rfl⟩
        have hC6 : Chg [] w5 (Go.Sort.grow (redrawn w5 r6.d) r6.os) := chg_regrown _ _ _
        generalize Go.Sort.grow (redrawn w5 r6.d) r6.os = w6 at *
        go_wp2_with (go_at_call 165; refine (HPU.out _ (hc5.nil_trans hC6)).mono ?_; intro e w7 hp; obtain ⟨he, d2, hM⟩ := HNX.out _ _ _ (hc5.nil_trans hC6) hp; subst he; clear hp)
        go_meet
        exact ⟨rfl, d2, _, hM⟩
      case rest =>
      obtain ⟨rfl, d2, lf2, hM⟩ := hcut
      have bx := hM.box
      have z0 := blk_frozen bx 0
      have z1 := blk_frozen bx 1
      have zl := blk_lt bx
      obtain ⟨sh2, hsh2⟩ : ∃ sh2, r.n / 2 ^ (h + 1) = sh2 := ⟨_, rfl⟩
      rw [hsh2] at hsp
      have hfin7 : ∀ w7, Chg [] wc w7 → RaL w ((w7.setCell ⟨S, 0, none⟩ (.int .u8 (h + 1 : Nat))).setCell ⟨S, 1, none⟩ (.int .u64 sh2)) rb r fin (h + 1) S d2 lf2 := fun w7 hc7 => by
        refine hM.spot ((hc7.of_nil.setCell (.inl (by simp)) _).setCell (.inl (by simp)) _) ?_
        have b7 := hc7.at bx (by simp)
        rw [hsh2]
        exact blk_set (blk_set b7 0 _) 1 _
      have HF7 := Lib.hid hfin7
      have hz : ∀ w7, Chg [] wc w7 → w7.frozen? ⟨S, 0, none⟩ = false ∧ w7.frozen? ⟨S, 1, none⟩ = false ∧ w7.cell? ⟨S, 0, none⟩ = some (.int .u8 h) ∧ w7.cell? ⟨S, 1, none⟩ = some (.int .u64 (r.n / 2 ^ h : Nat)) ∧ S < w7.heap.size := fun w7 hc7 => by
        have b7 := hc7.at bx (by simp)
        exact ⟨blk_frozen b7 0, blk_frozen b7 1, blk_cell b7 0 rfl, blk_cell b7 1 rfl, blk_lt b7⟩
      have HZ := Lib.hid hz
      clear hz hfin7 hsh2 bx hno rP rQ n1 m0 m2 HPU HNX
      have hh63 : h + 1 ≤ 62 := by omega
      go_wp2_with (go_at_call 166; refine (hsp _).mono ?_; rintro e w7 ⟨rfl, hc7⟩; obtain ⟨y1, y2, y3, y4, y5⟩ := HZ.out _ hc7)

      go_roundg (t1 r.n - (h + 1))
      case measure => rw [HG.out]; omega
      case rel => exact ⟨h + 1, d2, lf2, rfl, by rw [HLL.out], HF7.out _ hc7⟩
    · have hnn := hA.ra.h
      obtain rfl : h = t1 r.n := by omega
      have hbt : (((r.n / 2 ^ t1 r.n : Nat) : Int) % 2 == 1) = false := by rw [beq_eq_false_iff_ne]; have := HE.out; omega
      have hd := hA.ra.done HFIN.out (Chg.refl [] wr)
      rw [show ((r.n + 1 : Nat) : Int) = (r.n : Int) + 1 from by omega] at hd
      have HD := Lib.hid hd
      have hnn2 : r.n < 1000000 := hn
      clear hd hg hA hnn
      generalize r.n / 2 ^ t1 r.n = sh at *
      go_wp2
      go_ret
      exact HD.out
end Go.Proofs.YtpklkefnmoaaaaaGreatDoor

/- FindProves: New of the document's tree, Store of the program's (MpI's, MpJ's, without the rest of MmrPlays). -/
namespace Go.Proofs.YtpklkefnmoaaaaaGreatDoor
open Go.RowKit
set_option linter.unusedVariables false
set_option linter.unusedSimpArgs false
def R6NewO (w : World) (wd : Int) (log : Nat) (e : Ending) (w' : World) : Prop :=
  ∃ rb r, e = .returned (.tuple #[.pointer (some ⟨rb, 0, none⟩), .int .i64 0]) ∧ RtIs w' rb r ∧ Chg [] w w' ∧ (∀ k ∈ r.foot rb, w.heap.size ≤ k) ∧ r.wd = widthI wd ∧ r.n = 0 ∧ r.d.ns = []
set_option maxRecDepth 100000 in
theorem r6newO_ok (w : World) (wd : Int) (log : Nat) (hl : log ≤ 16) (hwd : -9223372036854775808 ≤ wd ∧ wd < 9223372036854775808) : Calls Tryz.prog 14 #[.int .i64 wd, .int .i64 log] w (R6NewO w wd log) := by
  have hnew := rnew_ok log w hl
  have hwi := fun W => r2width_calls wd W
  go_enter Tryz.func14, Tryz.ntmps14
  go_wp2_with (first
    | (go_at_call 77; refine hnew.mono ?_; rintro e w1 ⟨c, d, rfl, h1, h2, h3, h4, h5⟩)
    | (go_at_call 78; refine (hwi _).mono ?_; rintro e w2 ⟨rfl, hw2⟩; obtain rfl : w1 = w2 := hw2.symm))
  go_ret2
  have hc : Chg [] w1 (w1.alloc (.cells #[.int .i64 (widthN wd : Nat), .int .u64 0, .pointer (some ⟨c, 0, none⟩)] 52)) := (Chg.refl _ _).alloc _
  have hwn : ((widthN wd : Nat) : Int) = widthI wd := by unfold widthN widthI; omega
  refine ⟨w1.heap.size, ⟨c, d, widthI wd, 0⟩, rfl, ⟨?_, h1.chg0 hc, fun hm => ?_⟩, h2.nil_trans hc, fun k hk => ?_, rfl, rfl, h5⟩
  · rw [← hwn]
    exact blk_new w1 _
  · have := h1.lt _ hm; omega
  · simp only [RT.foot, List.mem_cons] at hk
    have := h2.size
    rcases hk with rfl | hk
    · exact this
    · exact h3 k hk
theorem tstoreO_calls (w : World) (b : Nat) (t : TS) (ht : TrIs w b t) : Calls Tryz.prog 16 #[.pointer (some ⟨b, 0, none⟩)] w (Res w [] (.pointer (some ⟨t.sb, 0, none⟩))) := by
  have c0 := blk_cell ht.mem 0 rfl
  have hb := blk_lt ht.mem
  go_enter Tryz.func16, Tryz.ntmps16
  go_wp2
  go_ret
  exact ⟨rfl, Chg.refl _ _⟩
end Go.Proofs.YtpklkefnmoaaaaaGreatDoor

/- The document's tree of given leaves: Of walked; both trees over the same leaves. -/
namespace Go.Proofs.YtpklkefnmoaaaaaGreatDoor
open Go.RowKit
set_option linter.unusedVariables false
set_option linter.unusedSimpArgs false
/-- The document's tree over leaves. -/
structure RL (r : RT) (wd : Int) (ls : List (Array Value)) : Prop where
  wdE : r.wd = widthI wd
  n : r.n = ls.length
  view : vd r.d.ns = treeV (widthI wd) ls
  pin : ∀ p, pd r.d.ns p = 0
theorem RL.len {r : RT} {wd : Int} {ls : List (Array Value)} (h : RL r wd ls) : r.d.ns.length = nodesN r.n := by
  have h1 : r.d.ns.length = (vd r.d.ns).n := rfl
  rw [h1, h.view, (forest (widthI wd) ls).n, h.n]
/-- The program's tree over leaves. -/
structure TL (t : TS) (wd : Int) (ls : List (Array Value)) : Prop where
  wdE : t.wd = widthI wd
  size : t.size = ls.length
  view : t.s.view = treeV (widthI wd) ls
  pin : ∀ p, t.s.pin p = 0
  al : t.s.alive ≤ 64 * ls.length
theorem TL.full {t : TS} {wd : Int} {ls : List (Array Value)} (h : TL t wd ls) : t.s.n = nodesN t.size := by
  have h1 : t.s.n = t.s.view.n := rfl
  rw [h1, h.view, (forest (widthI wd) ls).n, h.size]
theorem TL.rel {t : TS} {r : RT} {wd : Int} {ls : List (Array Value)} (h : TL t wd ls) (k : RL r wd ls) : Rel t r ls.length :=
  ⟨by rw [h.wdE, k.wdE], by rw [h.size, k.n], by rw [h.view, k.view], h.pin, k.pin, h.full, by rw [h.size]; exact Nat.le_refl _, h.al⟩
theorem TL.app {w w' : World} {b : Nat} {t : TS} {wd : Int} {ls : List (Array Value)} {x : Array Value} {e : Ending} (h : TL t wd ls) (hp : AppP w b t x e w') (h62 : t1 t.size ≤ 63) :
    e = .returned (.int .u64 ls.length) ∧ ∃ t', TrIs w' b t' ∧ TL t' wd (ls ++ [x]) ∧ Chg (t.foot b) w w' ∧ (∀ k ∈ t'.foot b, k ∈ t.foot b ∨ w.heap.size ≤ k) := by
  obtain ⟨he, t', q1, q2, q3, q4, q5, q6, q7, q8, q9, q10, q11⟩ := hp
  refine ⟨by rw [he, h.size], t', q1, ⟨by rw [q3, h.wdE], by rw [q4, h.size]; simp, ?_, fun p => ?_, ?_⟩, q10, q11⟩
  · rw [q5, h.wdE, h.size, h.view, treeV_snoc]
  · unfold SS.pin
    rw [q9]
    exact h.pin p
  · rw [q7, List.length_append]
    have := h.al
    simp
    omega
def ROfP (w0 w : World) (wd : Int) (ls : List (Array Value)) (rb : Nat) (r : RT) : Prop := RtIs w rb r ∧ RL r wd ls ∧ Chg [] w0 w ∧ ∀ k ∈ r.foot rb, w0.heap.size ≤ k
theorem ROfP.app {w0 w w' : World} {wd : Int} {ls : List (Array Value)} {rb : Nat} {r : RT} {x : Array Value} {e : Ending} (h : ROfP w0 w wd ls rb r) (hp : RApP w rb r x e w') : e = .returned (.int .u64 r.n) ∧ ∃ r', ROfP w0 w' wd (ls ++ [x]) rb r' := by
  obtain ⟨h1, h2, h3, h4⟩ := h
  obtain ⟨he, r', p1, p2, p3, p4, p5, p6, p7, p8⟩ := hp
  refine ⟨he, r', p1, ⟨by rw [p3, h2.wdE], by rw [p4, h2.n]; simp, by rw [p5, h2.wdE, h2.n, h2.view, treeV_snoc], fun p => by rw [p6]; exact h2.pin p⟩, h3.trans p7 (fun k hk => .inr (h4 k hk)), fun k hk => ?_⟩
  rcases p8 k hk with q | q
  · exact h4 k q
  · have := h3.size; omega
def R6OfP (w : World) (wd : Int) (ls : List (Array Value)) (e : Ending) (w' : World) : Prop := ∃ rb r, e = .returned (.pointer (some ⟨rb, 0, none⟩)) ∧ ROfP w w' wd ls rb r
set_option maxRecDepth 100000 in
set_option maxHeartbeats 4000000 in
theorem r6of_calls (w : World) (wd : Int) (hwd : -9223372036854775808 ≤ wd ∧ wd < 9223372036854775808) (lv : Value) (ls : List (Array Value)) (hv : HsIs w lv ls) (hlen : ls.length ≤ 100000) :
    Calls Tryz.prog 20 #[.int .i64 wd, lv] w (R6OfP w wd ls) := by
  obtain ⟨hI, a, cap, rfl, hr⟩ := hv
  have hnew := r6newO_ok w wd 3 (by omega) hwd
  rw [show ((3 : Nat) : Int) = 3 from rfl] at hnew
  obtain ⟨wo, rfl⟩ : ∃ wo : World, wo = w := ⟨_, rfl⟩
  go_enter Tryz.func20, Tryz.ntmps20
  go_wp2_with (go_at_call 14; refine hnew.mono ?_; rintro e w1 ⟨rb, r, rfl, h1, h2, h3, h4, h5, h6⟩)
  have hT0 : ROfP wo w1 wd [] rb r := ⟨h1, ⟨h4, h5, by rw [h6]; rfl, fun p => by rw [h6]; rfl⟩, h2, h3⟩
  clear hnew h1 h2 h3 h4 h5 h6
  go_loopg [7] ls.length (fun g ii wx => ∃ (k : Nat) (r : RT), k ≤ ls.length ∧ g = ls.length - k ∧ ii = .int .i64 k ∧ ROfP wo wx wd (ls.take k) rb r)
  case atStart => exact ⟨0, r, by omega, by omega, rfl, by rw [List.take_zero]; exact hT0⟩
  case round =>
    clear hT0
    obtain ⟨k, r, hkl, hg, rfl, hT⟩ := hrel
    by_cases hlt : k < ls.length
    · have hlt' : k < ls.length := hlt
      rcases hr with hr | ⟨pb, po, rfl, hpb, hr⟩
      · subst hr; simp at hlt'
      have hrow := rng?_chg hT.2.2.1 (hr k hlt') (by omega) (by simp)
      have hlk := World.block_lt_of_cell? _ _ ((rng?_cell hrow).2 0 (by rw [(rng?_cell hrow).1]; omega))
      have hIk := hI ls[k] (List.getElem_mem hlt')
      have htl : (ls.take k).length = k := by rw [List.length_take]; omega
      have htk : ls.take k ++ [ls[k]] = ls.take (k + 1) := (List.take_succ_eq_append_getElem hlt').symm
      have hrn : r.n = k := by rw [hT.2.1.n, htl]
      have happ := r6app_calls wr rb r ls[k] hT.1 hIk (by omega) hT.2.1.len
      have hnx : ∀ e w2, RApP wr rb r ls[k] e w2 → e = .returned (.int .u64 k) ∧ ∃ r', ROfP wo w2 wd (ls.take (k + 1)) rb r' := fun e w2 hp => by
        obtain ⟨he, r', h1⟩ := hT.app hp
        rw [htk] at h1
        exact ⟨by rw [he, hrn], r', h1⟩
      have HAP := Lib.hid happ
      have HNX := Lib.hid hnx
      have HG := Lib.hid hg
      have hk300 : k < 100000 := by omega
      have hI1 := hIk.1
      have hI2 := hIk.one
      clear happ hnx htk htl hg hr hI hT hrn
      generalize ls[k] = x at *
      go_wp2_with (go_at_call 82; refine HAP.out.mono ?_; intro e w4 hp; obtain ⟨he, r', h1⟩ := HNX.out e w4 hp; subst he)
      go_roundg (ls.length - (k + 1))
      case measure => rw [HG.out]; omega
      case rel => exact ⟨k + 1, r', by omega, rfl, by go_num, h1⟩
    · obtain rfl : k = ls.length := by omega
      rw [List.take_length] at hT
      clear hg hr
      go_wp2
      go_ret
      exact ⟨rb, r, rfl, hT⟩
end Go.Proofs.YtpklkefnmoaaaaaGreatDoor
