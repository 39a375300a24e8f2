/- Texts put into one by pack.py: MpD MpH LwD LwR MpV MpG. -/
import Derived.Deep.LoopGhost
import Derived.Test.YtpklkefnmoaaaaaGreatDoorPkH
import Derived.Test.YtpklkefnmoaaaaaGreatDoorPkK
import Derived.Test.YtpklkefnmoaaaaaGreatDoorPkI
import Derived.Test.YtpklkefnmoaaaaaGreatDoorPkG
import Derived.Test.YtpklkefnmoaaaaaGreatDoorPkC
/- The document's tree: Append walked. -/
namespace Go.Proofs.YtpklkefnmoaaaaaGreatDoor
open Go.RowKit
set_option linter.unusedVariables false
set_option linter.unusedSimpArgs false

structure RaL (w wr : World) (rb : Nat) (r : RT) (fin : NV) (h S : Nat) (d' : DS) (lf : Array Value) : Prop where
  ra : RaI w wr rb r fin h d' lf
  box : wr.heap[S]? = some (.cells #[.int .u8 h, .int .u64 (r.n / 2 ^ h : Nat)] 178 (0, 0))
  Sf : S ∉ RT.foot { r with d := d' } rb
  Sw : w.heap.size ≤ S
/-- Behind a push, ahead of the next spot. -/
structure RaM (w wr : World) (rb : Nat) (r : RT) (fin : NV) (h S : Nat) (d' : DS) (lf : Array Value) : Prop where
  ra : RaI w wr rb r fin (h + 1) d' lf
  box : wr.heap[S]? = some (.cells #[.int .u8 h, .int .u64 (r.n / 2 ^ h : Nat)] 178 (0, 0))
  Sf : S ∉ RT.foot { r with d := d' } rb
  Sw : w.heap.size ≤ S
theorem RaL.push {w wr W w2 : World} {rb h S : Nat} {r : RT} {fin : NV} {d' : DS} {lf x : Array Value} {e : Ending} {v : Value} (hA : RaL w wr rb r fin h S d' lf) (hlt : h < t1 r.n) (hW : Chg [] wr W)
    (hx : x = nodeA r.wd ((vd d'.ns).get (r.d.ns.length + h - (2 ^ (h + 1) - 1))) lf) (hxi : IsHash x) (hp : DP W r.c d' (d'.ns ++ [some (x, 0)]) v e w2) :
    e = .returned v ∧ ∃ d2, RaM w w2 rb r fin h S d2 x := by
  obtain ⟨he, d2, h1⟩ := hA.ra.next hlt hW hx hxi hp
  obtain ⟨_, d3, q1, q2, q3, q4⟩ := hp
  have hSl := blk_lt hA.box
  have hSd : S ∉ d'.foot r.c := fun hk => hA.Sf (by simp only [RT.foot, List.mem_cons]; exact .inr hk)
  obtain ⟨he', d2', h1'⟩ := hA.ra.next hlt hW hx hxi ⟨he, d3, q1, q2, q3, q4⟩
  refine ⟨he, d3, ?_⟩
  have h0 := (hA.ra.rt.chg0 hW).mvD (r := { r with d := d' }) q1 q4
  have hs := hW.size
  have hsw := hA.ra.chg.size
  refine ⟨?_, q4.1.at (hW.at hA.box (by simp)) hSd, fun hm => ?_, hA.Sw⟩
  · refine ⟨h0, (hA.ra.chg.nil_trans hW).trans q4.1 (fun k hk => hA.ra.new k hk), fun k hk => ?_, by rw [q2, List.length_append, hA.ra.len]; simp; omega, fun p => by rw [q2, pd_push]; exact hA.ra.pin p, ?_, hxi, ?_, by omega⟩
    · rcases q4.2 k hk with q | q
      · exact hA.ra.new k q
      · right; omega
    · rw [q2, vd_push]
      have e1 : r.d.ns.length + (h + 1) = (vd d'.ns).n := by show _ = d'.ns.length; rw [hA.ra.len]; omega
      rw [e1]
      exact NV.push_last _ x
    · have hc := hA.ra.cl
      rw [show t1 r.n - h = (t1 r.n - (h + 1)) + 1 from by omega] at hc
      rw [q2, vd_push, ← hc, hx]
      have e2 : (vd d'.ns).n - 1 = r.d.ns.length + h := by show d'.ns.length - 1 = _; rw [hA.ra.len]; omega
      rw [climb, e2]
  · simp only [RT.foot, List.mem_cons] at hm
    rcases hm with hm | hm
    · exact hA.Sf (by simp [RT.foot, hm])
    · rcases q4.2 S hm with q | q
      · exact hSd q
      · omega
theorem RaM.spot {w wr W : World} {rb h S : Nat} {r : RT} {fin : NV} {d' : DS} {lf : Array Value} (hA : RaM w wr rb r fin h S d' lf) (hW : Chg [S] wr W) (hb : W.heap[S]? = some (.cells #[.int .u8 (h + 1 : Nat), .int .u64 (r.n / 2 ^ (h + 1) : Nat)] 178 (0, 0))) :
    RaL w W rb r fin (h + 1) S d' lf := by
  have hf : ∀ k ∈ RT.foot { r with d := d' } rb, k ∉ [S] := fun k hk hm => hA.Sf (by simp at hm; subst hm; exact hk)
  refine ⟨⟨hA.ra.rt.chg hW hf, hA.ra.chg.trans hW (fun k hk => by simp at hk; subst hk; exact .inr hA.Sw), hA.ra.new, hA.ra.len, hA.ra.pin, hA.ra.last, hA.ra.lh, hA.ra.cl, hA.ra.h⟩, hb, hA.Sf, hA.Sw⟩
theorem RaL.first {w w2 w3 : World} {rb : Nat} {r : RT} {fin : NV} {d' : DS} {lf : Array Value} (hA : RaI w w2 rb r fin 0 d' lf) (hc : Chg [] w2 w3) {W : World} (hW : W = w3.alloc (.cells #[.int .u8 0, .int .u64 r.n] 178)) : RaL w W rb r fin 0 w3.heap.size d' lf := by
  subst hW
  have hc2 : Chg [] w2 (w3.alloc (.cells #[.int .u8 0, .int .u64 r.n] 178)) := hc.alloc _
  refine ⟨⟨hA.rt.chg0 hc2, hA.chg.nil_trans hc2, hA.new, hA.len, hA.pin, hA.last, hA.lh, hA.cl, hA.h⟩, ?_, fun hm => ?_, by have := hA.chg.size; have := hc.size; omega⟩
  · have := blk_new w3 (.cells #[.int .u8 0, .int .u64 r.n] 178)
    rw [this, Nat.pow_zero, Nat.div_one]
    rfl
  · have := hA.rt.lt _ hm
    have := hc.size
    omega
set_option maxRecDepth 100000 in
set_option maxHeartbeats 8000000 in
theorem r6app_calls (w : World) (rb : Nat) (r : RT) (leaf : Array Value) (hr : RtIs w rb r) (hl : IsHash leaf) (hn : r.n < 1000000) (hlen : r.d.ns.length = nodesN r.n) : Calls Tryz.prog 82 #[.pointer (some ⟨rb, 0, none⟩), .agg leaf] w (RApP w rb r leaf) := by
  have hb := blk_lt hr.mem
  have c2 := blk_cell hr.mem 2 rfl
  have hls := hl.1
  have hnb : nodesN r.n ≤ 2 * r.n := nodes_le _
  have ht1 := t1_le r.n (by omega)
  have htp := t1_pow_le r.n
  have hW0 : Chg [] w (w.alloc (.cells leaf 36)).drew := ((Chg.refl _ _).alloc _).drew
  have hpush := rpush_calls r.c r.d leaf (w.alloc (.cells leaf 36)).drew (hr.st.chg0 hW0) hl (by omega)
  have hfst := fun (e : Ending) (w2 : World) (hp : DP (w.alloc (.cells leaf 36)).drew r.c r.d (r.d.ns ++ [some (leaf, 0)]) (.int .u64 r.d.ns.length) e w2) => RaI.first hr hW0 hl hp
  have hsp : ∀ h, h ≤ t1 r.n → ∀ W, Calls Tryz.prog 166 #[.int .u64 (r.d.ns.length + h : Nat)] W (SpotP W h (r.n / 2 ^ h)) := fun h hh W => by rw [hlen]; exact r3spot_calls r.n h (by omega) hh W
  have hsi : ∀ h, h < t1 r.n → ∀ W, Calls Tryz.prog 167 #[.int .u64 (r.d.ns.length + h : Nat)] W (Res W [] (.tuple #[.int .u64 (r.d.ns.length + h - (2 ^ (h + 1) - 1) : Nat), .bool true])) := fun h hh W => by rw [hlen]; exact r3sib_calls r.n h (by omega) hh W
  have hsp0 : ∀ W, Calls Tryz.prog 166 #[.int .u64 (r.d.ns.length : Nat)] W (SpotP W 0 r.n) := fun W => by
    have := hsp 0 (Nat.zero_le _) W
    rwa [Nat.add_zero, Nat.pow_zero, Nat.div_one] at this
  have hend := t1_end r.n
  have hbit := t1_bit r.n
  have hNb : r.d.ns.length ≤ 2000000 := by omega
  have HF := Lib.hid hfst
  have HP := Lib.hid hpush
  have HSP := Lib.hid hsp
  have HSI := Lib.hid hsi
  have HE := Lib.hid hend
  have HB := Lib.hid hbit
  have HR := Lib.hid hr
  clear hfst hpush hsp hsi hend hbit hlen hnb hr
  go_enter Tryz.func82, Tryz.ntmps82
  go_upto_region 1 with (fail)
  go_cut [5] from 10 to 15 (fun v5 wx => v5 = .int .u64 r.d.ns.length ∧ ∃ d', RaI w wx rb r (appV r.wd r.n (vd r.d.ns) leaf) 0 d' leaf)
  case first =>
    go_region_with (go_at_call 165; refine HP.out.mono ?_; intro e w2 hp; obtain ⟨he, hA⟩ := HF.out e w2 hp; subst he)
    all_goals
      go_wp2
      go_meet
      exact ⟨rfl, hA⟩
  case rest =>
  obtain ⟨rfl, d0, hA0⟩ := hcut
  clear HP HF c2 hW0
  go_wp2_with (go_at_call 166; refine (hsp0 _).mono ?_; rintro e w3 ⟨rfl, hc3⟩)
  have hL0 := RaL.first hA0 hc3 rfl
  generalize w3.heap.size = S at *
  generalize w3.alloc _ = w4 at *
  clear hA0 hc3 hsp0
  obtain ⟨fin, hfin⟩ : ∃ fin, fin = appV r.wd r.n (vd r.d.ns) leaf := ⟨_, rfl⟩
  rw [← hfin] at hL0
  have HFIN := Lib.hid hfin
  clear hfin
  go_loopg [5] (t1 r.n) (fun g pp wx => ∃ (h : Nat) (d' : DS) (lf : Array Value), g = t1 r.n - h ∧ pp = .int .u64 (r.d.ns.length + h : Nat) ∧ RaL w wx rb r fin h S d' lf)
  case atStart => exact ⟨0, d0, leaf, rfl, rfl, hL0⟩
  case round =>
    clear hL0
    obtain ⟨h, d', lf, hg, rfl, hA⟩ := hrel
    have s1 := blk_cell hA.box 1 rfl
    have hSl := blk_lt hA.box
    have k0 := blk_cell hA.ra.rt.mem 0 rfl
    have k1 := blk_cell hA.ra.rt.mem 1 rfl
    have k2 := blk_cell hA.ra.rt.mem 2 rfl
    have f1 := blk_frozen hA.ra.rt.mem 1
    have hbr := blk_lt hA.ra.rt.mem
    simp only at k0 k1 k2
    by_cases hlt : h < t1 r.n
    · have hbt : (((r.n / 2 ^ h : Nat) : Int) % 2 == 1) = true := by rw [beq_iff_eq]; have := HB.out h hlt; omega
      have hst := hA.ra.rt.st
      simp only at hst
      have hlen' := hA.ra.len
      have j1 := hst.c1
      have hcl := hst.blt
      have hsib := HSI.out h hlt
      have hsp := HSP.out (h + 1) (by omega)
      have hp1 := Nat.pow_le_pow_right (show 0 < 2 from by omega) (show h + 1 ≤ t1 r.n from hlt)
      have hpp := Nat.two_pow_pos (h + 1)
      obtain ⟨P, hP⟩ : ∃ P, r.d.ns.length + h = P := ⟨_, rfl⟩
      obtain ⟨q, hq⟩ : ∃ q, P - (2 ^ (h + 1) - 1) = q := ⟨_, rfl⟩
      have hPL : P < d'.ns.length := by omega
      have hqL : q < d'.ns.length := by omega
      obtain ⟨g, hA1, hne, hatP⟩ := hst.at hPL
      obtain ⟨g', hA2, _, hatQ⟩ := hst.at hqL
      obtain rfl : g = g' := by rw [hA1] at hA2; injection hA2 with e; injection e
      have hlast : dnH d'.ns[P] = lf := by
        have := hA.ra.last
        rw [hP, vd_get, List.getElem?_eq_getElem hPL] at this
        exact this
      have hrP := hatP.hash
      have hrQ := hatQ.hash
      rw [hlast] at hrP
      have hlf := hA.ra.lh
      have hX : IsHash (dnH d'.ns[q]) := (hst.ok _ (List.getElem_mem hqL)).is.1
      have hXe : dnH d'.ns[q] = (vd d'.ns).get q := by rw [vd_get, List.getElem?_eq_getElem hqL]; rfl
      have hgl := hatP.lt
      obtain ⟨X, hXX⟩ : ∃ X, dnH d'.ns[q] = X := ⟨_, rfl⟩
      rw [hXX] at hX hXe hrQ
      have hno := fun (W : World) => r2nodeA_calls W r.wd hX hlf
      have hxi := nodeA_is r.wd hX hlf
      have hnx := fun (W : World) (e : Ending) (w2 : World) (hW : Chg [] wr W) (hp : DP W r.c d' (d'.ns ++ [some (nodeA r.wd X lf, 0)]) (.int .u64 d'.ns.length) e w2) => hA.push hlt hW (by rw [hP, hq, ← hXe]) hxi hp
      have hpu := fun (W : World) (hW : Chg [] wr W) => rpush_calls r.c d' (nodeA r.wd X lf) W (hst.chg0 hW) hxi (by omega)
      have hlL : d'.ns.length = r.d.ns.length + (h + 1) := by omega
      rw [← hlL] at hsp
      rw [hP, hq] at hsib
      rw [hP]
      have HPU := Lib.hid hpu
      have HNX := Lib.hid hnx
      have HG := Lib.hid hg
      have HLL := Lib.hid hlL
      have hx1 := hxi.1
      have hx2 := hxi.one
      have hl1 := hlf.1
      have hX1 := hX.1
      rw [hA1] at j1
      clear hpu hnx hg hst hatP hatQ hlast hXe hXX hA2 hp1 hpp hq hP hlen' hA1 hlL hxi hX hlf
      generalize nodeA r.wd X lf = x at *
      generalize r.n / 2 ^ h = sh at *
      obtain ⟨L, hL⟩ : ∃ L, d'.ns.length = L := ⟨_, rfl⟩
      rw [hL] at j1 hPL hqL hsp HPU HNX HLL
      have hLb : L ≤ 4000000 := by have := HLL.out; omega
      clear hL
      go_upto_region 5 with (go_at_call 167; refine (hsib _).mono ?_; rintro e w5 ⟨rfl, hc5⟩)
      have m0 := (hc5.cell (p := ⟨rb, 0, none⟩) hbr (by simp)).trans k0
      have m2 := (hc5.cell (p := ⟨rb, 2, none⟩) hbr (by simp)).trans k2
      have n1 := (hc5.cell (p := ⟨r.c, 1, none⟩) hcl (by simp)).trans j1
      have rP := rng?_chg hc5 hrP (by omega) (by simp)
      have rQ := rng?_chg hc5 hrQ (by omega) (by simp)
      have hb5 := Nat.lt_of_lt_of_le hbr hc5.size
      have hcl5 := Nat.lt_of_lt_of_le hcl hc5.size
      have hg5 := Nat.lt_of_lt_of_le hgl hc5.size
      clear k0 k1 j1 hrP hrQ hsib s1 f1
      go_cut [5] from 30 to 61 (fun v5 wx => v5 = .int .u64 L ∧ ∃ d2 lf2, RaM w wx rb r fin h S d2 lf2)
      case first =>
        have hno5 : ∀ W, Chg [] w5 W → Calls Tryz.prog 160 #[.int .i64 r.wd, .agg X, .agg lf] W (Res W [] (.agg x)) := fun W _ => hno W
        refine wp_region_quiet_tail 31 (by kernel_rfl) (by kernel_rfl) ?_
        simp only [List.take_succ_cons, List.take_zero, List.drop_succ_cons, List.drop_zero]
        repeat (any_goals (go_big_quiet_step ((go_at_call 160; exact rg_of hno5 _ _))))
        refine wpQuiet_nil ?_
        rintro w6 ⟨r6, rfl⟩
        have hC6 : Chg [] w5 (Go.Sort.grow (redrawn w5 r6.d) r6.os) := chg_regrown _ _ _
        generalize Go.Sort.grow (redrawn w5 r6.d) r6.os = w6 at *
        go_wp2_with (go_at_call 165; refine (HPU.out _ (hc5.nil_trans hC6)).mono ?_; intro e w7 hp; obtain ⟨he, d2, hM⟩ := HNX.out _ _ _ (hc5.nil_trans hC6) hp; subst he; clear hp)
        go_meet
        exact ⟨rfl, d2, _, hM⟩
      case rest =>
      obtain ⟨rfl, d2, lf2, hM⟩ := hcut
      have bx := hM.box
      have z0 := blk_frozen bx 0
      have z1 := blk_frozen bx 1
      have zl := blk_lt bx
      obtain ⟨sh2, hsh2⟩ : ∃ sh2, r.n / 2 ^ (h + 1) = sh2 := ⟨_, rfl⟩
      rw [hsh2] at hsp
      have hfin7 : ∀ w7, Chg [] wc w7 → RaL w ((w7.setCell ⟨S, 0, none⟩ (.int .u8 (h + 1 : Nat))).setCell ⟨S, 1, none⟩ (.int .u64 sh2)) rb r fin (h + 1) S d2 lf2 := fun w7 hc7 => by
        refine hM.spot ((hc7.of_nil.setCell (.inl (by simp)) _).setCell (.inl (by simp)) _) ?_
        have b7 := hc7.at bx (by simp)
        rw [hsh2]
        exact blk_set (blk_set b7 0 _) 1 _
      have HF7 := Lib.hid hfin7
      have hz : ∀ w7, Chg [] wc w7 → w7.frozen? ⟨S, 0, none⟩ = false ∧ w7.frozen? ⟨S, 1, none⟩ = false ∧ w7.cell? ⟨S, 0, none⟩ = some (.int .u8 h) ∧ w7.cell? ⟨S, 1, none⟩ = some (.int .u64 (r.n / 2 ^ h : Nat)) ∧ S < w7.heap.size := fun w7 hc7 => by
        have b7 := hc7.at bx (by simp)
        exact ⟨blk_frozen b7 0, blk_frozen b7 1, blk_cell b7 0 rfl, blk_cell b7 1 rfl, blk_lt b7⟩
      have HZ := Lib.hid hz
      clear hz hfin7 hsh2 bx hno rP rQ n1 m0 m2 HPU HNX
      have hh63 : h + 1 ≤ 62 := by omega
      go_wp2_with (go_at_call 166; refine (hsp _).mono ?_; rintro e w7 ⟨rfl, hc7⟩; obtain ⟨y1, y2, y3, y4, y5⟩ := HZ.out _ hc7)

      go_roundg (t1 r.n - (h + 1))
      case measure => rw [HG.out]; omega
      case rel => exact ⟨h + 1, d2, lf2, rfl, by rw [HLL.out], HF7.out _ hc7⟩
    · have hnn := hA.ra.h
      obtain rfl : h = t1 r.n := by omega
      have hbt : (((r.n / 2 ^ t1 r.n : Nat) : Int) % 2 == 1) = false := by rw [beq_eq_false_iff_ne]; have := HE.out; omega
      have hd := hA.ra.done HFIN.out (Chg.refl [] wr)
      rw [show ((r.n + 1 : Nat) : Int) = (r.n : Int) + 1 from by omega] at hd
      have HD := Lib.hid hd
      have hnn2 : r.n < 1000000 := hn
      clear hd hg hA hnn
      generalize r.n / 2 ^ t1 r.n = sh at *
      go_wp2
      go_ret
      exact HD.out
end Go.Proofs.YtpklkefnmoaaaaaGreatDoor

/- Install: the document's walked; both refusals. -/
namespace Go.Proofs.YtpklkefnmoaaaaaGreatDoor
open Go.RowKit
set_option linter.unusedVariables false
set_option linter.unusedSimpArgs false
set_option maxRecDepth 100000 in
theorem r6ins_size (w : World) (rb : Nat) (r : RT) (a : Option Addr) (n cap k : Nat) (hr : RtIs w rb r) (hs : r.n ≤ 4611686018427387904) (hk : 4611686018427387904 - r.n < k) (hk2 : k < 18446744073709551616) : Calls Tryz.prog 95 #[.pointer (some ⟨rb, 0, none⟩), .slice a n cap, .int .u64 k] w (Res w [] (.int .i64 30)) := by
  have c1 := blk_cell hr.mem 1 rfl
  have hb := blk_lt hr.mem
  have hd : decide ((4611686018427387904 : Int) - (r.n : Int) < (k : Int)) = true := decide_eq_true (by omega)
  clear hr
  go_enter Tryz.func95, Tryz.ntmps95
  go_wp2
  go_ret
  exact ⟨rfl, Chg.refl _ _⟩
set_option maxRecDepth 100000 in
theorem install_size (w : World) (b : Nat) (t : TS) (a : Option Addr) (n cap k : Nat) (ht : TrIs w b t) (hs : t.size ≤ 4611686018427387904) (hk : 4611686018427387904 - t.size < k) (hk2 : k < 18446744073709551616) : Calls Tryz.prog 94 #[.pointer (some ⟨b, 0, none⟩), .slice a n cap, .int .u64 k] w (Res w [] (.int .i64 30)) := by
  have c2 := blk_cell ht.mem 2 rfl
  have hb := blk_lt ht.mem
  clear ht
  by_cases hm : 4611686018427387904 < k
  · have hd : decide ((4611686018427387904 : Int) < (k : Int)) = true := decide_eq_true (by omega)
    go_enter Tryz.func94, Tryz.ntmps94
    go_wp2
    go_ret
    exact ⟨rfl, Chg.refl _ _⟩
  · have hd : decide ((4611686018427387904 : Int) < (k : Int)) = false := decide_eq_false (by omega)
    have hd2 : decide ((4611686018427387904 : Int) - (k : Int) < (t.size : Int)) = true := decide_eq_true (by omega)
    go_enter Tryz.func94, Tryz.ntmps94
    go_wp2
    go_ret
    exact ⟨rfl, Chg.refl _ _⟩
set_option maxRecDepth 100000 in
theorem r6ins_count (w : World) (rb : Nat) (r : RT) (a : Option Addr) (n cap k : Nat) (hr : RtIs w rb r) (hsz : r.n + k ≤ 4611686018427387904) (hlen : n ≠ nodesN (r.n + k) - nodesN r.n) (hn : n ≤ 1099511627776) :
    Calls Tryz.prog 95 #[.pointer (some ⟨rb, 0, none⟩), .slice a n cap, .int .u64 k] w (Res w [] (.int .i64 70)) := by
  have c1 := blk_cell hr.mem 1 rfl
  have hb := blk_lt hr.mem
  have h1 := fun W => r3nodes_calls r.n (by omega) W
  have h2 := fun W => r3nodes_calls (r.n + k) hsz W
  rw [show ((r.n + k : Nat) : Int) = (r.n : Int) + k from by omega] at h2
  have hm := nodes_mono (show r.n ≤ r.n + k from by omega)
  have hbd := nodes_le (r.n + k)
  have hne : ((n : Int) != ((nodesN (r.n + k) : Nat) : Int) - (nodesN r.n : Nat)) = true := by rw [bne_iff_ne]; omega
  have hts : r.n ≤ 4611686018427387904 := by omega
  have hkk : k ≤ 4611686018427387904 := by omega
  have hd : decide ((4611686018427387904 : Int) - (r.n : Int) < (k : Int)) = false := decide_eq_false (by omega)
  clear hlen hr
  generalize nodesN (r.n + k) = N2 at *
  generalize nodesN r.n = N1 at *
  go_enter Tryz.func95, Tryz.ntmps95
  go_wp2_with (first
    | (go_at_call 157; (with_reducible refine (h1 _).mono ?_); rintro e w1 ⟨rfl, hw1⟩; obtain rfl : w = w1 := hw1.symm)
    | (go_at_call 157; (with_reducible refine (h2 _).mono ?_); rintro e w1 ⟨rfl, hw1⟩; obtain rfl : w = w1 := hw1.symm))
  go_ret
  exact ⟨rfl, Chg.refl _ _⟩
set_option maxRecDepth 100000 in
set_option maxHeartbeats 8000000 in
theorem r6ins_calls (w : World) (rb : Nat) (r : RT) (a : Option Addr) (cap k : Nat) (hs : List (Array Value)) (hr : RtIs w rb r) (hI : ∀ x ∈ hs, IsHash x) (hv : ∀ W, Chg (r.foot rb) w W → HsIs W (.slice a hs.length cap) hs)
    (hsz : r.n + k ≤ 4611686018427387904) (hlen : hs.length = nodesN (r.n + k) - nodesN r.n) (hl : hs.length ≤ 1000000) (hn : r.d.ns.length ≤ 1000000) :
    Calls Tryz.prog 95 #[.pointer (some ⟨rb, 0, none⟩), .slice a hs.length cap, .int .u64 k] w (RInP w rb r hs k) := by
  have c1 := blk_cell hr.mem 1 rfl
  have hb := blk_lt hr.mem
  have h1 := fun W => r3nodes_calls r.n (by omega) W
  have h2 := fun W => r3nodes_calls (r.n + k) hsz W
  rw [show ((r.n + k : Nat) : Int) = (r.n : Int) + k from by omega] at h2
  have hm := nodes_mono (show r.n ≤ r.n + k from by omega)
  have hbd := nodes_le (r.n + k)
  have hne : ((hs.length : Int) != ((nodesN (r.n + k) : Nat) : Int) - (nodesN r.n : Nat)) = false := by rw [bne_eq_false_iff_eq]; omega
  have hts : r.n ≤ 4611686018427387904 := by omega
  have hkk : k ≤ 4611686018427387904 := by omega
  have hd : decide ((4611686018427387904 : Int) - (r.n : Int) < (k : Int)) = false := decide_eq_false (by omega)
  have hI0 := RinI.zero hs hr
  have HV := Lib.hid hv
  have HI := Lib.hid hI
  have HI0 := Lib.hid hI0
  clear hlen hv hI hI0 hr
  generalize nodesN (r.n + k) = N2 at *
  generalize nodesN r.n = N1 at *
  go_enter Tryz.func95, Tryz.ntmps95
  go_wp2_with (first
    | (go_at_call 157; (with_reducible refine (h1 _).mono ?_); rintro e w1 ⟨rfl, hw1⟩; obtain rfl : w = w1 := hw1.symm)
    | (go_at_call 157; (with_reducible refine (h2 _).mono ?_); rintro e w1 ⟨rfl, hw1⟩; obtain rfl : w = w1 := hw1.symm))
  clear c1 hb h1 h2 hne hm hbd hd
  obtain ⟨w0, rfl⟩ : ∃ w0 : World, w0 = w := ⟨_, rfl⟩
  go_loopg [11] hs.length (fun g ii wx => ∃ (i : Nat) (d' : DS), i ≤ hs.length ∧ g = hs.length - i ∧ ii = .int .i64 i ∧ RinI w0 wx rb r d' hs i)
  case atStart => exact ⟨0, r.d, by omega, by omega, rfl, HI0.out⟩
  case round =>
    obtain ⟨i, d', hil, hg, rfl, hA⟩ := hrel
    clear HI0
    have c1 := blk_cell hA.rt.mem 1 rfl
    have c2 := blk_cell hA.rt.mem 2 rfl
    have f1 := blk_frozen hA.rt.mem 1
    have hbr := blk_lt hA.rt.mem
    simp only at c1 c2
    by_cases hlt : i < hs.length
    · have hlt' : i < hs.length := hlt
      obtain ⟨_, a', cap', hveq, hrw⟩ := HV.out wr hA.chg
      injection hveq with e1 e2 e3
      subst e1 e3
      rcases hrw with hrw | ⟨pb, po, rfl, hpb, hrw⟩
      · subst hrw; simp at hlt'
      have hrow := hrw i hlt'
      have hlk := World.block_lt_of_cell? _ _ ((rng?_cell hrow).2 0 (by rw [(rng?_cell hrow).1]; omega))
      have hix := HI.out _ (List.getElem_mem hlt')
      have hdl := hA.len
      have hpush := fun (W : World) (hW : Chg [] wr W) => rpush_calls r.c d' hs[i] W (hA.rt.st.chg0 hW) hix (by omega)
      have hnx := fun (W : World) (e : Ending) (w2 : World) (hW : Chg [] wr W) (hp : DP W r.c d' (d'.ns ++ [some (hs[i], 0)]) (.int .u64 d'.ns.length) e w2) => hA.next hlt' hW hp
      have hs1 := hix.1
      have hs2 := hix.one
      have HP := Lib.hid hpush
      have HNX := Lib.hid hnx
      have HG := Lib.hid hg
      clear hpush hnx hg hA hrw hix c1 f1 hdl
      generalize hs[i] = x at *
      go_upto_region 10 with (fail)
      refine wp_region_quiet_tail 8 (by kernel_rfl) (by kernel_rfl) ?_
      simp only [List.take_succ_cons, List.take_zero, List.drop_succ_cons, List.drop_zero]
      repeat (any_goals (go_big_quiet_step (fail)))
      refine wpQuiet_nil ?_
      rintro w6 ⟨r6, rfl⟩
      have hC6 : Chg [] wr (Go.Sort.grow (redrawn wr r6.d) r6.os) := chg_regrown _ _ _
      generalize Go.Sort.grow (redrawn wr r6.d) r6.os = w6 at *
      go_wp2_with (go_at_call 165; refine (HP.out _ hC6).mono ?_; intro e w7 hp; obtain ⟨he, d2, hM⟩ := HNX.out _ _ _ hC6 hp; subst he; clear hp)
      go_roundg (hs.length - (i + 1))
      case measure => rw [HG.out]; omega
      case rel => exact ⟨i + 1, d2, by omega, rfl, by go_num, hM⟩
    · obtain rfl : i = hs.length := by omega
      have hlast := hA.done (k := k) (Chg.refl [] wr)
      rw [show ((r.n + k : Nat) : Int) = (r.n : Int) + k from by omega] at hlast
      have HL := Lib.hid hlast
      clear hlast hA hg
      go_wp2
      go_ret
      exact HL.out
end Go.Proofs.YtpklkefnmoaaaaaGreatDoor

/- The trees' statements: 'of', 'same' walked. -/
namespace Go.Proofs.YtpklkefnmoaaaaaGreatDoor
open Go.RowKit
set_option linter.unusedVariables false
set_option linter.unusedSimpArgs false

theorem HsIs.chg0 {w w' : World} {v : Value} {hs : List (Array Value)} (h : HsIs w v hs) (hc : Chg [] w w') : HsIs w' v hs := h.chg hc (by simp)
set_option maxRecDepth 100000 in
theorem same_calls (w : World) (va vb : Value) (l : List (Array Value)) (ha : HsIs w va l) (hb : HsIs w vb l) (hlen : l.length ≤ 1000000) : Calls Tryz.prog 86 #[va, vb] w (Res w [] (.bool true)) := by
  obtain ⟨hI, a, cap, rfl, hr⟩ := ha
  obtain ⟨_, b, cap2, rfl, hr2⟩ := hb
  go_enter Tryz.func86, Tryz.ntmps86
  go_wp2
  obtain ⟨wo, rfl⟩ : ∃ wo : World, wo = w := ⟨_, rfl⟩
  go_loopg [5] l.length (fun g ii wx => ∃ n : Nat, n ≤ l.length ∧ g = l.length - n ∧ ii = .int .i64 n ∧ Chg [] wo wx)
  case atStart => exact ⟨0, by omega, by omega, rfl, Chg.refl _ _⟩
  case round =>
    obtain ⟨n, hnl, hg, rfl, hC⟩ := hrel
    by_cases hlt : n < l.length
    · have hlt' : n < l.length := hlt
      rcases hr with hr | ⟨pb, po, rfl, hpb, hr⟩
      · subst hr; simp at hlt'
      rcases hr2 with hr2 | ⟨qb, qo, rfl, hqb, hr2⟩
      · subst hr2; simp at hlt'
      have r1 := rng?_chg hC (hr n hlt') (by omega) (by simp)
      have r2 := rng?_chg hC (hr2 n hlt') (by omega) (by simp)
      have hI1 := hI _ (List.getElem_mem hlt')
      have l1 := World.block_lt_of_cell? _ _ ((rng?_cell r1).2 0 (by rw [(rng?_cell r1).1]; omega))
      have l2 := World.block_lt_of_cell? _ _ ((rng?_cell r2).2 0 (by rw [(rng?_cell r2).1]; omega))
      have heq : eqH l[n] l[n] = true := eqH_self
      have n0 : (0 : Int) ≤ (n : Int) := by omega
      have n1 : (n : Int) < (l.length : Int) := by omega
      have hs1 := hI1.1
      have hs2 := hI1.one
      have HG := Lib.hid hg
      clear hg hI hr hr2
      generalize l[n] = x at *
      go_upto_region 6 with (fail)
      go_quiet (fail)
      go_wp2
      go_roundg (l.length - (n + 1))
      case measure => rw [HG.out]; omega
      case rel => exact ⟨n + 1, by omega, rfl, by go_num, hC.drewN _⟩
    · obtain rfl : n = l.length := by omega
      clear hg hr hr2
      go_wp2
      go_ret
      exact ⟨rfl, hC⟩
def OfP (w : World) (wd : Int) (ls : List (Array Value)) (e : Ending) (w' : World) : Prop := ∃ b t, e = .returned (.tuple #[.pointer (some ⟨b, 0, none⟩), .bool true]) ∧ TreeOf w w' b t wd ls
end Go.Proofs.YtpklkefnmoaaaaaGreatDoor

/- Rows of hashes: lists appended to a row of the call's own; 'row' of the trees' statements walked. -/
namespace Go.Proofs.YtpklkefnmoaaaaaGreatDoor
open Go.RowKit
set_option linter.unusedVariables false
set_option linter.unusedSimpArgs false

@[go_sem] theorem bs_Hash0 (w : World) : (bsX 39 0 #[]).run Tryz.prog w = .ok (.slice (some ⟨w.heap.size, 0, none⟩) 0 0) (w.alloc (.cells #[] 36)) := by
  obtain ⟨i, hi, hz, hsz, _⟩ := infoOf i_Hash
  have hso : ∀ w, (sizeOf 36).run Tryz.prog w = .ok 32 w := by intro w; simp [sizeOf, typeInfo, hi, hsz]
  unfold bsX Instr.buildSlice
  simp only [Sem.run_bind, run_underlying u_hashes, Result.andThen_ok, hso, Sem.run_ite, Nat.zero_mul, Sem.run_pure]
  simp only [show ¬ (0 > 2 ^ 24) from by decide, if_false, if_true, Result.andThen_ok]
  have e : (Array.map (fun x => (#[] : Array Value)[x % (#[] : Array Value).size]!) (Array.range 0)) = #[] := by simp
  rw [e]
  rfl
theorem HOwn.empty (w : World) (B : Nat) (hB : B ≤ w.heap.size) : HOwn (w.alloc (.cells #[] 36)) B (.slice (some ⟨w.heap.size, 0, none⟩) 0 0) [] :=
  ⟨own_new w B 36 32 0 #[] hB rfl (by decide), by simp⟩
theorem HsIs.rd {w : World} {a : Option Addr} {m cap : Nat} {l : List (Array Value)} (h : HsIs w (.slice a m cap) l) : m = l.length ∧ Rd w 32 a m (l.flatMap (·.toList)) := by
  obtain ⟨hI, a', cap', hv, hr⟩ := h
  injection hv with h1 h2 h3
  subst h1 h2
  refine ⟨rfl, flat_length hI, fun hm => ?_⟩
  rcases hr with hr | ⟨b, o, ha, hb, hr⟩
  · subst hr; simp at hm
  · refine ⟨b, o, ha, fun j u hu => ?_⟩
    have hjl : j < l.length * 32 := by
      have := (List.getElem?_eq_some_iff.1 hu).1
      rwa [flat_length hI] at this
    have hd : j / 32 < l.length := by omega
    have e := flat_at hI (j / 32) hd (j % 32) (by omega)
    rw [show j / 32 * 32 + j % 32 = j from by omega, hu] at e
    have hx := (hI _ (List.getElem_mem hd)).1
    have hc := (rng?_cell (hr (j / 32) hd)).2 (j % 32) (by rw [hx]; omega)
    rw [show o + j / 32 * 32 + j % 32 = o + j from by omega] at hc
    rw [hc]
    rw [e]
    rw [Array.getElem?_eq_getElem (by rw [hx]; omega)]
theorem HOwn.append {w : World} {B : Nat} {v : Value} {hs l : List (Array Value)} {a : Option Addr} {m cap : Nat} (h : HOwn w B v hs) (hl : HsIs w (.slice a m cap) l) (hlen : hs.length + l.length ≤ 4294967296) (hB : B ≤ w.heap.size) (ty : TypeId) :
    ∃ v' w', (Builtin.append_ #[39, 39] ty #[v, .slice a m cap]).run Tryz.prog w = .ok v' w' ∧ HOwn w' B v' (hs ++ l) ∧ Chg (ob v) w w' ∧ (∀ k ∈ ob v', k ∈ ob v ∨ w.heap.size ≤ k) := by
  obtain ⟨i, hi, hz, hsz, hby⟩ := infoOf i_Hash
  obtain ⟨rfl, hrd⟩ := hl.rd
  obtain ⟨v', w', hr, h2, h3, h4⟩ := run_append_any (P := Tryz.prog) w B 39 ty 36 i _ 32 32 u_hashes hi hz hsz hby zeroHash_size (by decide) v hs.length _ h.1 a l.length cap _ hrd
    (fun u hu => by
      obtain ⟨x, hx, hux⟩ := List.mem_flatMap.1 hu
      obtain ⟨n, rfl, _⟩ := (hl.1 x hx).2 u hux
      rfl) (by unfold maxLen; omega) (by omega) hB
  refine ⟨v', w', hr, ⟨?_, fun y hy => ?_⟩, h3, h4⟩
  · rw [List.length_append, List.flatMap_append]
    exact h2
  · rcases List.mem_append.1 hy with q | q
    · exact h.2 y q
    · exact hl.1 y q
/-- A row with one hash more, seen without it. -/
theorem HOwn.form {w : World} {B : Nat} {v : Value} {l : List (Array Value)} {x : Array Value} (h : HOwn w B v (l ++ [x])) :
    ∃ g cap, v = .slice (some ⟨g, 0, none⟩) (l.length + 1) cap ∧ l.length + 1 ≤ cap ∧ cap ≤ maxLen ∧ B ≤ g ∧ HOwn w B (.slice (some ⟨g, 0, none⟩) l.length cap) l := by
  have hl := flat_length h.2
  rcases h.1.2 with ⟨rfl, h0⟩ | ⟨g, cap, cur, rfl, hb, hh, hnc, hm, hcs, ht⟩
  · simp at h0
  · rw [List.length_append, List.length_singleton] at hnc ht ⊢
    refine ⟨g, cap, rfl, hnc, hm, hb, ⟨?_, .inr ⟨g, cap, cur, rfl, hb, hh, by omega, hm, hcs, ?_⟩⟩, fun y hy => h.2 y (by simp [hy])⟩
    · exact flat_length (fun y hy => h.2 y (by simp [hy]))
    · have e := congrArg (List.take (l.length * 32)) ht
      rw [List.take_take, Nat.min_eq_left (by omega), List.flatMap_append] at e
      rw [e, List.take_left' (flat_length (fun y hy => h.2 y (by simp [hy])))]
def RowP (w : World) (l : List (Array Value)) (e : Ending) (w' : World) : Prop :=
  ∃ g cap, e = .returned (.slice (some ⟨g, 0, none⟩) l.length cap) ∧ l.length + 1 ≤ cap ∧ w.heap.size ≤ g ∧ HOwn w' w.heap.size (.slice (some ⟨g, 0, none⟩) (l.length + 1) cap) (l ++ [hash1 171]) ∧ HOwn w' w.heap.size (.slice (some ⟨g, 0, none⟩) l.length cap) l ∧ Chg [] w w'
set_option maxRecDepth 100000 in
theorem row_calls (w : World) (lv : Value) (l : List (Array Value)) (hv : HsIs w lv l) (hlen : l.length ≤ 1000000) : Calls Tryz.prog 93 #[lv] w (RowP w l) := by
  obtain ⟨a, cap, rfl⟩ : ∃ a cap, lv = .slice a l.length cap := by obtain ⟨_, a, cap, h, _⟩ := hv; exact ⟨a, cap, h⟩
  have h0 := HOwn.empty w w.heap.size (Nat.le_refl _)
  have c0 : Chg [] w (w.alloc (.cells #[] 36)) := (Chg.refl _ _).alloc _
  obtain ⟨v1, w1, hr1, h1, c1, b1⟩ := h0.append (hv.chg0 c0) (by simp; omega) (by simp) 39
  rw [List.nil_append] at h1
  have c01 : Chg [] w w1 := c0.trans c1 (fun k hk => .inr (by rw [ob_some] at hk; simp at hk; omega))
  have h71 : IsHash (hash1 171) := hash1_is (by omega) (by omega)
  obtain ⟨v2, w2, hr2, h2, c2, b2⟩ := h1.push (hash1 171) h71 (by omega) c01.size 39
  have hol := own_lt h1.1
  have c02 : Chg [] w w2 := c01.trans c2 (fun k hk => .inr (hol k hk).1)
  obtain ⟨g, cap2, rfl, hcap, hmx, hg, h3⟩ := h2.form
  have hfin : RowP w l (.returned (.slice (some ⟨g, 0, none⟩) l.length cap2)) w2 := ⟨g, cap2, rfl, hcap, hg, h2, h3, c02⟩
  have HF := Lib.hid hfin
  have s71 := h71.1
  unfold maxLen at hmx
  clear h0 c0 h1 c1 b1 c01 h2 c2 b2 hol c02 h3 hfin hv hg h71
  go_enter Tryz.func93, Tryz.ntmps93
  go_wp2_with (first
    | (at_builtin; refine Lib.wpList_append_run _ rfl _ _ _ _ rfl _ _ rfl rfl _ _ hr1 ?_)
    | (at_builtin; refine Lib.wpList_append_run _ rfl _ _ _ _ rfl _ _ rfl rfl _ _ hr2 ?_))
  go_ret
  exact HF.out
end Go.Proofs.YtpklkefnmoaaaaaGreatDoor

/- MmrPlays' acts: what one is in memory; those that came in; weight. -/
namespace Go.Proofs.YtpklkefnmoaaaaaGreatDoor
open Go.RowKit
set_option linter.unusedVariables false
set_option linter.unusedSimpArgs false

structure AM where
  what : Int
  h : Array Value
  da : Option Addr
  dc : Nat
  dl : List Nat
  p : Nat
  na : Option Addr
  nc : Nat
  nl : List (Array Value)
def AM.cells (x : AM) : Array Value := #[Value.int .i64 x.what] ++ x.h ++ #[.slice x.da x.dl.length x.dc, .int .u64 x.p, .slice x.na x.nl.length x.nc]
structure AM.ok (w : World) (x : AM) : Prop where
  hash : IsHash x.h
  what : -9223372036854775808 ≤ x.what ∧ x.what < 9223372036854775808
  p : x.p < 18446744073709551616
  dl : BsIs w (.slice x.da x.dl.length x.dc) x.dl
  nl : HsIs w (.slice x.na x.nl.length x.nc) x.nl
theorem AM.ok.size {w : World} {x : AM} (h : x.ok w) : x.cells.size = 36 := by simp [AM.cells, h.hash.1]
theorem AM.ok.one {w : World} {x : AM} (h : x.ok w) : one1 x.cells = true := by
  have hh := h.hash.one
  unfold one1 at *
  rw [Array.all_eq_true_iff_forall_mem] at hh ⊢
  intro v hv
  simp only [AM.cells, Array.mem_append] at hv
  rcases hv with (hv | hv) | hv
  · simp at hv; subst hv; rfl
  · exact hh v hv
  · simp at hv
    rcases hv with rfl | rfl | rfl <;> rfl
theorem AM.ok.chg0 {w w' : World} {x : AM} (h : x.ok w) (hc : Chg [] w w') : x.ok w' := ⟨h.hash, h.what, h.p, h.dl.chg0 hc, h.nl.chg0 hc⟩
theorem am0 {x : AM} (h : IsHash x.h) : x.cells[0]? = some (.int .i64 x.what) := by
  unfold AM.cells
  rw [Array.getElem?_append_left (by simp; omega), Array.getElem?_append_left (by simp)]
  rfl
theorem am1 {x : AM} (h : IsHash x.h) {j : Nat} (hj : j < x.h.size) : x.cells[1 + j]? = some x.h[j] := by
  unfold AM.cells
  rw [Array.getElem?_append_left (by simp; omega), Array.getElem?_append_right (by simp)]
  simp [hj]
theorem am33 {x : AM} (h : IsHash x.h) : x.cells[33]? = some (.slice x.da x.dl.length x.dc) := by
  unfold AM.cells
  rw [Array.getElem?_append_right (by simp [h.1])]
  simp [h.1]
theorem am34 {x : AM} (h : IsHash x.h) : x.cells[34]? = some (.int .u64 x.p) := by
  unfold AM.cells
  rw [Array.getElem?_append_right (by simp [h.1])]
  simp [h.1]
theorem am35 {x : AM} (h : IsHash x.h) : x.cells[35]? = some (.slice x.na x.nl.length x.nc) := by
  unfold AM.cells
  rw [Array.getElem?_append_right (by simp [h.1])]
  simp [h.1]
/-- What the act's box tells. -/
structure AMB (w : World) (bx : Nat) (x : AM) : Prop where
  c0 : w.cell? ⟨bx, 0, none⟩ = some (.int .i64 x.what)
  ch : rng? w bx 1 32 = some x.h
  c33 : w.cell? ⟨bx, 33, none⟩ = some (.slice x.da x.dl.length x.dc)
  c34 : w.cell? ⟨bx, 34, none⟩ = some (.int .u64 x.p)
  c35 : w.cell? ⟨bx, 35, none⟩ = some (.slice x.na x.nl.length x.nc)
  lt : bx < w.heap.size
theorem AMB.new {w : World} {x : AM} (h : IsHash x.h) : AMB (w.alloc (.cells x.cells 41)) w.heap.size x := by
  have hb := blk_new w (.cells x.cells 41)
  exact ⟨blk_cell hb 0 (am0 h), rng?_mk h.1 (fun j hj => blk_cell hb (1 + j) (am1 h hj)), blk_cell hb 33 (am33 h), blk_cell hb 34 (am34 h), blk_cell hb 35 (am35 h), blk_lt hb⟩
theorem AMB.chg {w w' : World} {x : AM} {bx : Nat} {F : List Nat} (h : AMB w bx x) (hc : Chg F w w') (hF : bx ∉ F) : AMB w' bx x :=
  ⟨by rw [hc.cell (p := ⟨bx, 0, none⟩) h.lt hF]; exact h.c0, rng?_chg hc h.ch (by omega) hF, by rw [hc.cell (p := ⟨bx, 33, none⟩) h.lt hF]; exact h.c33, by rw [hc.cell (p := ⟨bx, 34, none⟩) h.lt hF]; exact h.c34,
    by rw [hc.cell (p := ⟨bx, 35, none⟩) h.lt hF]; exact h.c35, Nat.lt_of_lt_of_le h.lt hc.size⟩
/-- A list of acts that came in. -/
def ActsM (w : World) (v : Value) (l : List AM) : Prop :=
  (∀ x ∈ l, x.ok w ∧ x.dl.length ≤ 140737488355328 ∧ x.nl.length ≤ 140737488355328) ∧ l.length ≤ 140737488355328 ∧ ∃ a cap, v = .slice a l.length cap ∧ (l = [] ∨ ∃ b o, a = some ⟨b, o, none⟩ ∧ b < w.heap.size ∧ ∀ i (hi : i < l.length), rng? w b (o + i * 36) 36 = some l[i].cells)
def am1w (x : AM) : Nat := 1 + x.dl.length / 16 + x.nl.length
def wtM (l : List AM) : Nat := (l.map am1w).sum
theorem wtM_take {l : List AM} {k : Nat} (hk : k < l.length) : wtM (l.take (k + 1)) = wtM (l.take k) + am1w l[k] := by
  unfold wtM
  rw [List.take_succ_eq_append_getElem hk, List.map_append, List.sum_append]
  simp
theorem wtM_le (l : List AM) (k : Nat) : wtM (l.take k) ≤ wtM l := by
  have : wtM l = wtM (l.take k) + wtM (l.drop k) := by
    unfold wtM
    rw [← List.sum_append, ← List.map_append, List.take_append_drop]
  omega
theorem wtM_len (l : List AM) : l.length ≤ wtM l := by
  unfold wtM am1w
  induction l with
  | nil => simp
  | cons x l ih => simp; omega
theorem wtM_mem {l : List AM} {x : AM} (h : x ∈ l) : am1w x ≤ wtM l := by
  unfold wtM
  induction l with
  | nil => simp at h
  | cons y l ih =>
    simp
    rcases List.mem_cons.1 h with rfl | h
    · omega
    · have := ih h; omega
def WtM (w : World) (l : List AM) (e : Ending) (w' : World) : Prop := ∃ n : Nat, e = .returned (.int .i64 n) ∧ (200 < n ↔ 200 < wtM l) ∧ n ≤ 1125899906842624 ∧ Chg [] w w'
set_option maxRecDepth 100000 in
theorem weightM_calls (v : Value) (l : List AM) (w : World) (h : ActsM w v l) : Calls Tryz.prog 12 #[v] w (WtM w l) := by
  obtain ⟨hok, hlen, a, cap, rfl, hr⟩ := h
  have hle := fun k => wtM_le l k
  have hst := fun k (hk : k < l.length) => wtM_take hk
  have h0 : wtM (l.take 0) = 0 := rfl
  go_enter Tryz.func12, Tryz.ntmps12
  go_wp2_with fail
  go_loopg [3, 4] l.length (fun m n i wr => ∃ k : Nat, k ≤ l.length ∧ m = l.length - k ∧ wtM (l.take k) ≤ 1125899906842624 ∧ n = .int .i64 (wtM (l.take k) : Nat) ∧ i = .int .i64 k ∧ Chg [] w wr)
  case atStart => exact ⟨0, Nat.zero_le _, by omega, by omega, by rw [h0]; rfl, rfl, Chg.refl _ _⟩
  case round =>
    obtain ⟨k, hk, hgk, hb, rfl, rfl, hC⟩ := hrel
    by_cases hlt : k < l.length
    · have hs := hst k hlt
      have hle2 := hle k
      by_cases hn : wtM (l.take k) ≤ 200
      · rcases hr with rfl | ⟨ab, ao, rfl, hab, hr⟩
        · simp at hlt
        have hab2 := Nat.lt_of_lt_of_le hab hC.size
        have hrk := rng?_chg hC (hr k hlt) (by omega) (by simp)
        obtain ⟨hx, hxl, hxn⟩ := hok l[k] (List.getElem_mem hlt)
        have hc33 := (rng?_cell hrk).2 33 (by rw [hx.size]; omega)
        have e33 := am33 hx.hash
        rw [Array.getElem?_eq_getElem (by rw [hx.size]; omega)] at e33
        rw [Option.some.inj e33] at hc33
        have hc35 := (rng?_cell hrk).2 35 (by rw [hx.size]; omega)
        have e35 := am35 hx.hash
        rw [Array.getElem?_eq_getElem (by rw [hx.size]; omega)] at e35
        rw [Option.some.inj e35] at hc35
        have HS := Lib.hid hs
        have dn : decide ((wtM (l.take k) : Int) ≤ 200) = true := by simp; omega
        have hw1 : am1w l[k] = 1 + l[k].dl.length / 16 + l[k].nl.length := rfl
        rw [hw1] at HS
        clear hs hst hle hok hr hrk e33 e35 hx h0 hle2 hw1
        generalize l[k] = x at *
        generalize wtM (l.take k) = W at *
        have hdiv : ((x.dl.length : Int) / 16) = ((x.dl.length / 16 : Nat) : Int) := by omega
        have hdb : x.dl.length / 16 ≤ 140737488355328 := by omega
        generalize x.dl.length / 16 = D at *
        go_wp2
        go_quiet (fail)
        go_wp2
        go_roundg (l.length - (k + 1))
        case measure => omega
        case rel => exact ⟨k + 1, by omega, rfl, by rw [HS.out]; omega, by rw [HS.out]; go_num, by go_num, hC.drewN _⟩
      · have dn : decide ((wtM (l.take k) : Int) ≤ 200) = false := by simp; omega
        have hfin : 200 < wtM l := by omega
        clear hst hle hok hr hs h0 hle2
        generalize wtM (l.take k) = W at *
        go_wp2
        go_ret
        exact ⟨W, rfl, by omega, hb, hC⟩
    · obtain rfl : k = l.length := by omega
      have ht : wtM (l.take l.length) = wtM l := by rw [List.take_length]
      have HT := Lib.hid ht
      have dn : decide ((l.length : Int) < (l.length : Int)) = false := by simp
      clear hst hle hok hr h0 hlt ht
      obtain ⟨W, hW⟩ : ∃ W, wtM (l.take l.length) = W := ⟨_, rfl⟩
      rw [hW] at hb ⊢
      have HW := Lib.hid hW
      clear hW
      go_wp2
      go_ret
      exact ⟨W, rfl, by rw [← HW.out, HT.out], hb, hC⟩
end Go.Proofs.YtpklkefnmoaaaaaGreatDoor

/- A copy of bytes with a mark behind it. -/
namespace Go.Proofs.YtpklkefnmoaaaaaGreatDoor
open Go.RowKit
set_option linter.unusedVariables false
set_option linter.unusedSimpArgs false

theorem BOwn.shp {w : World} {B : Nat} {v : Value} {l : List Nat} (h : BOwn w B v l) : ∃ a cap, v = .slice a l.length cap := by
  rcases h.2 with ⟨rfl, h0⟩ | ⟨g, cap, cur, rfl, _⟩
  · rw [h0]; exact ⟨none, 0, rfl⟩
  · exact ⟨_, cap, rfl⟩
theorem BOwn.full {w : World} {B : Nat} {v : Value} {l : List Nat} {n : Nat} (h : BOwn w B v l) (hl : l.length = n + 1) : ∃ g cap, v = .slice (some ⟨g, 0, none⟩) (n + 1) cap ∧ n + 1 ≤ cap ∧ B ≤ g ∧ g < w.heap.size := by
  rcases h.2 with ⟨rfl, h0⟩ | ⟨g, cap, cur, rfl, hb, hh, h1, _⟩
  · omega
  · exact ⟨g, cap, by rw [hl], by omega, hb, blk_lt hh⟩
def apG (ts : Array TypeId) (ty : TypeId) (xs : Array Value) : Sem Value := Builtin.append_ ts ty xs
theorem hold_apG (ts : Array TypeId) (ty : TypeId) (xs : Array Value) : Builtin.append_ ts ty xs = apG ts ty xs := rfl
/-- A copy with one byte behind it. -/
structure GbIs (wb : World) (dl : List Nat) (g cap : Nat) (W : World) : Prop where
  own : BOwn W wb.heap.size (.slice (some ⟨g, 0, none⟩) (dl.length + 1) cap) (dl ++ [171])
  cap : dl.length + 1 ≤ cap
  chg : Chg [] wb W
  lo : wb.heap.size ≤ g
  by8 : ∀ x ∈ dl, x < 256
theorem GbIs.undrew {wb W : World} {dl : List Nat} {g cap : Nat} (h : GbIs wb.drew dl g cap W) : GbIs wb dl g cap W := ⟨h.own, h.cap, ((Chg.refl _ _).drew).nil_trans h.chg, h.lo, h.by8⟩
theorem chg_ownB {w w1 w2 : World} {B : Nat} {v : Value} {l : List Nat} (hc : Chg [] w w1) (ho : BOwn w1 B v l) (hB : w.heap.size ≤ B) (h : Chg (ob v) w1 w2) : Chg [] w w2 :=
  hc.trans h (fun k hk => .inr (by have := (own_lt ho k hk).1; omega))
theorem box171 {w : World} {g : Nat} (h : w.heap[g]? = some (.cells #[.int .u8 171] 5 (0, 0))) : BsIs w (.slice (some ⟨g, 0, none⟩) 1 1) [171] :=
  ⟨by simp, _, 1, rfl, by simp, by unfold maxLen; omega, .inr ⟨g, 0, rfl, blk_lt h, fun i hi => by
    have : i = 0 := by simpa using hi
    subst this
    exact blk_cell h 0 rfl⟩⟩
theorem gib_b (wb w : World) {g1 g3 : Nat} (hcw : Chg [] wb w) (h0 : BOwn w wb.heap.size (.slice (some ⟨g1, 0, none⟩) 0 0) []) (h3 : w.heap[g3]? = some (.cells #[.int .u8 171] 5 (0, 0))) (hne : g3 ≠ g1) {a : Option Addr} {cap : Nat} {dl : List Nat} (hk : BsIs w (.slice a dl.length cap) dl) (hl : dl.length ≤ 1000000) :
    ∃ a2 cap2 w2 g cap4 w4, (apG #[37, 37] 37 #[.slice (some ⟨g1, 0, none⟩) 0 0, .slice a dl.length cap]).run Tryz.prog w = .ok (.slice a2 dl.length cap2) w2 ∧ Chg [] wb w2 ∧
      (apG #[37, 37] 37 #[.slice a2 dl.length cap2, .slice (some ⟨g3, 0, none⟩) 1 1]).run Tryz.prog w2 = .ok (.slice (some ⟨g, 0, none⟩) (dl.length + 1) cap4) w4 ∧ GbIs wb dl g cap4 w4 := by
  obtain ⟨v2, w2, hr, ho, hc2, _⟩ := BsIs.append h0 hk (by simp; omega) hcw.size 37
  obtain ⟨a2, cap2, rfl⟩ := ho.shp
  have hcw2 := chg_ownB hcw h0 (Nat.le_refl _) hc2
  have h3' := hc2.at h3 (by simp [ob_some]; exact hne)
  obtain ⟨v4, w4, hr4, ho4, hc4, _⟩ := BsIs.append ho (box171 h3') (by simp; omega) hcw2.size 37
  obtain ⟨g, cap4, rfl, q1, q2, q3⟩ := ho4.full (n := dl.length) (by simp)
  simp only [List.nil_append] at hr ho hr4 ho4
  exact ⟨a2, cap2, w2, g, cap4, w4, hr, hcw2, hr4, ho4, q1, chg_ownB hcw2 ho (Nat.le_refl _) hc4, q2, hk.1⟩
theorem gib_a (w : World) {a : Option Addr} {cap : Nat} {dl : List Nat} (hk : BsIs w (.slice a dl.length cap) dl) (hl : dl.length ≤ 1000000) :
    ∃ a2 cap2 w2 g cap4 w4, (apG #[37, 37] 37 #[.slice (some ⟨w.heap.size, 0, none⟩) 0 0, .slice a dl.length cap]).run Tryz.prog (w.alloc (.cells #[] 5)) = .ok (.slice a2 dl.length cap2) w2 ∧ Chg [] w w2 ∧
      (apG #[37, 37] 37 #[.slice a2 dl.length cap2, .slice (some ⟨w2.heap.size, 0, none⟩) 1 1]).run Tryz.prog (w2.alloc (.cells #[.int .u8 171] 5)) = .ok (.slice (some ⟨g, 0, none⟩) (dl.length + 1) cap4) w4 ∧ GbIs w dl g cap4 w4 := by
  have hc : Chg [] w (w.alloc (.cells #[] 5)) := (Chg.refl _ _).alloc _
  have h0 : BOwn (w.alloc (.cells #[] 5)) w.heap.size (.slice (some ⟨w.heap.size, 0, none⟩) 0 0) [] := own_new w w.heap.size 5 1 0 #[] (Nat.le_refl _) rfl (Nat.zero_le _)
  obtain ⟨v2, w2, hr, ho, hc2, _⟩ := BsIs.append h0 (hk.chg0 hc) (by simp; omega) hc.size 37
  obtain ⟨a2, cap2, rfl⟩ := ho.shp
  have hcw2 := chg_ownB hc h0 (Nat.le_refl _) hc2
  have hc3 : Chg [] w2 (w2.alloc (.cells #[.int .u8 171] 5)) := (Chg.refl _ _).alloc _
  have ho3 : BOwn (w2.alloc (.cells #[.int .u8 171] 5)) w.heap.size _ ([] ++ dl) := own_chg ho hc3 (by simp)
  obtain ⟨v4, w4, hr4, ho4, hc4, _⟩ := BsIs.append ho3 (box171 (blk_new w2 _)) (by simp; omega) (hcw2.nil_trans hc3).size 37
  obtain ⟨g, cap4, rfl, q1, q2, q3⟩ := ho4.full (n := dl.length) (by simp)
  simp only [List.nil_append] at hr ho hr4 ho4
  exact ⟨a2, cap2, w2, g, cap4, w4, hr, hcw2, hr4, ho4, q1, chg_ownB (hcw2.nil_trans hc3) ho3 (Nat.le_refl _) hc4, q2, hk.1⟩
theorem GbIs.cell {wb W : World} {dl : List Nat} {g cap : Nat} (h : GbIs wb dl g cap W) {j : Nat} (hj : j < dl.length) : W.cell? ⟨g, j, none⟩ = some (.int .u8 (dl[j] : Nat)) ∧ W.frozen? ⟨g, j, none⟩ = false := by
  rcases h.own.2 with ⟨hv, _⟩ | ⟨g', cap2, cur, hv, hb, hh, hnc, hm, hcs, ht⟩
  · cases hv
  · injection hv with e1
    injection e1 with e1
    injection e1 with e1
    subst e1
    refine ⟨blk_cell hh j ?_, blk_frozen hh j⟩
    have e : (cur.toList.take ((dl ++ [171]).length * 1))[j]? = ((dl ++ [171]).map fun (n : Nat) => Value.int .u8 (n : Int))[j]? := by rw [ht]
    rw [List.getElem?_take_of_lt (by simp; omega), Array.getElem?_toList] at e
    rw [e]
    simp [List.getElem?_append_left, hj]
theorem GbIs.last {wb W : World} {dl : List Nat} {g cap : Nat} (h : GbIs wb dl g cap W) : W.cell? ⟨g, dl.length, none⟩ = some (.int .u8 171) := by
  rcases h.own.2 with ⟨hv, _⟩ | ⟨g', cap2, cur, hv, hb, hh, hnc, hm, hcs, ht⟩
  · cases hv
  · injection hv with e1
    injection e1 with e1
    injection e1 with e1
    subst e1
    refine blk_cell hh _ ?_
    have e : (cur.toList.take ((dl ++ [171]).length * 1))[dl.length]? = ((dl ++ [171]).map fun (n : Nat) => Value.int .u8 (n : Int))[dl.length]? := by rw [ht]
    rw [List.getElem?_take_of_lt (by simp), Array.getElem?_toList] at e
    rw [e]
    simp
theorem GbIs.lt {wb W : World} {dl : List Nat} {g cap : Nat} (h : GbIs wb dl g cap W) : g < W.heap.size := (own_lt h.own g (by simp [ob, Value.ownBlock])).2
theorem GbIs.bs {wb W : World} {dl : List Nat} {g cap : Nat} (h : GbIs wb dl g cap W) : BsIs W (.slice (some ⟨g, 0, none⟩) dl.length cap) dl := by
  have hm : cap ≤ maxLen := by
    rcases h.own.2 with ⟨hv, _⟩ | ⟨g', cap2, cur, hv, hb, hh, hnc, hm, hcs, ht⟩
    · cases hv
    · injection hv with e1 e2 e3
      subst e3
      exact hm
  exact ⟨h.by8, _, cap, rfl, by have := h.cap; omega, hm, .inr ⟨g, 0, rfl, h.lt, fun i hi => by rw [Nat.zero_add]; exact (h.cell hi).1⟩⟩
end Go.Proofs.YtpklkefnmoaaaaaGreatDoor
