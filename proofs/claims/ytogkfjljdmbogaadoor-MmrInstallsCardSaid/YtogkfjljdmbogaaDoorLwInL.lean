/- MmrInstalls walked. -/
import Derived.Test.YtogkfjljdmbogaaDoorLwIn
import Derived.Test.YtogkfjljdmbogaaDoorLwR
import Derived.Test.YtogkfjljdmbogaaDoorLwAw
namespace Go.Proofs.YtogkfjljdmbogaaDoor
open Go.RowKit
set_option linter.unusedVariables false
set_option linter.unusedSimpArgs false

theorem TreeOf.rebase {w0 w3 w : World} {b : Nat} {t : TS} {wd : Int} {ls : List (Array Value)} (h : TreeOf w3 w b t wd ls) (hc : Chg [] w0 w3) : TreeOf w0 w b t wd ls :=
  ⟨h.tr, h.wdE, h.size, h.view, h.fl, h.al, fun k hk => Nat.le_trans hc.size (h.low k hk), hc.nil_trans h.chg⟩
/-- Two trees beside each other. -/
structure Two (w0 w : World) (ba : Nat) (ta : TS) (bb : Nat) (tb : TS) (wd : Int) (la lb : List (Array Value)) : Prop where
  a : TreeOf w0 w ba ta wd la
  b : TreeOf w0 w bb tb wd lb
  apart : ∀ k ∈ ta.foot ba, k ∉ tb.foot bb
theorem Two.chg0 {w0 w w' : World} {ba : Nat} {ta : TS} {bb : Nat} {tb : TS} {wd : Int} {la lb : List (Array Value)} (h : Two w0 w ba ta bb tb wd la lb) (hc : Chg [] w w') : Two w0 w' ba ta bb tb wd la lb :=
  ⟨h.a.chg0 hc, h.b.chg0 hc, h.apart⟩
theorem Two.stepA {w0 w w' : World} {ba : Nat} {ta ta' : TS} {bb : Nat} {tb : TS} {wd : Int} {la la' lb : List (Array Value)} (h : Two w0 w ba ta bb tb wd la lb) (h1 : TreeOf w0 w' ba ta' wd la') (hc : Chg (ta.foot ba) w w')
    (hn : ∀ k ∈ ta'.foot ba, k ∈ ta.foot ba ∨ w.heap.size ≤ k) : Two w0 w' ba ta' bb tb wd la' lb :=
  ⟨h1, h.b.chgF hc (fun k hk hm => h.apart k hm hk) h1.chg, fun k hk hm => by
    rcases hn k hk with q | q
    · exact h.apart k q hm
    · have := h.b.tr.lt k hm; omega⟩
theorem Two.stepB {w0 w w' : World} {ba : Nat} {ta : TS} {bb : Nat} {tb tb' : TS} {wd : Int} {la lb lb' : List (Array Value)} (h : Two w0 w ba ta bb tb wd la lb) (h1 : TreeOf w0 w' bb tb' wd lb') (hc : Chg (tb.foot bb) w w')
    (hn : ∀ k ∈ tb'.foot bb, k ∈ tb.foot bb ∨ w.heap.size ≤ k) : Two w0 w' ba ta bb tb' wd la lb' :=
  ⟨h.a.chgF hc (fun k hk hm => h.apart k hk hm) h1.chg, h1, fun k hk hm => by
    rcases hn k hm with q | q
    · exact h.apart k hk q
    · have := h.a.tr.lt k hk; omega⟩
/-- The nodes from one place on. -/
def nodesL (V : NV) (n i : Nat) : List (Array Value) := (List.range i).map fun j => V.get (n + j)
theorem nodesL_length (V : NV) (n i : Nat) : (nodesL V n i).length = i := by simp [nodesL]
theorem nodesL_succ (V : NV) (n i : Nat) : nodesL V n (i + 1) = nodesL V n i ++ [V.get (n + i)] := by simp [nodesL, List.range_succ]
theorem nodesL_at (V : NV) (n m i : Nat) (h : i < (nodesL V n m).length) : (nodesL V n m)[i] = V.get (n + i) := by simp [nodesL]
set_option maxRecDepth 100000 in
set_option maxHeartbeats 8000000 in
theorem installs_walk (w : World) (wd : Int) (hwd : -9223372036854775808 ≤ wd ∧ wd < 9223372036854775808) (lv : Value) (ls : List (Array Value)) (hv : HsIs w lv ls) (mv : Value) (ms : List (Array Value)) (hm : HsIs w mv ms)
    (hlen : ls.length ≤ 200) (hlen2 : ms.length ≤ 200) (hk : HIs w) :
    Calls Tryd.prog 6 #[.int .i64 wd, lv, mv] w (Res w [] (.bool true)) := by
  have hofa := of_calls w wd hwd lv ls hv (by omega) hk
  have hofb := fun (W : World) (hc : Chg [] w W) (v : Value) (h : HsIs W v (ls ++ ms)) => of_calls W wd hwd v (ls ++ ms) h (by rw [List.length_append]; omega) (hk.chg0 hc)
  obtain ⟨a, cap, rfl⟩ : ∃ a cap, lv = .slice a ls.length cap := by obtain ⟨_, a, cap, h, _⟩ := hv; exact ⟨a, cap, h⟩
  obtain ⟨a2, cap2, rfl⟩ : ∃ a cap, mv = .slice a ms.length cap := by obtain ⟨_, a, cap, h, _⟩ := hm; exact ⟨a, cap, h⟩
  have hg1 : decide ((200 : Int) < (ls.length : Int)) = false := decide_eq_false (by omega)
  have hg2 : decide ((200 : Int) < (ms.length : Int)) = false := decide_eq_false (by omega)
  have hn1 := fun W => Nodes_calls ls.length (by omega) W
  have hn2 := fun W => Nodes_calls (ls.length + ms.length) (by omega) W
  rw [show ((ls.length + ms.length : Nat) : Int) = (ls.length : Int) + ms.length from by omega] at hn2
  have hmono := nodes_mono (show ls.length ≤ ls.length + ms.length from by omega)
  have hbd := nodes_le (ls.length + ms.length)
  obtain ⟨w0, rfl⟩ : ∃ w0 : World, w0 = w := ⟨_, rfl⟩
  go_enter Tryd.func6, Tryd.ntmps6
  go_wp2_with fail
  go_at_call 17
  refine hofa.mono ?_
  rintro e w1 ⟨ba, ta, rfl, hTa⟩
  have h0 := HOwn.empty w1 w1.heap.size (Nat.le_refl _)
  have c0 : Chg [] w1 (w1.alloc (.cells #[] 26)) := (Chg.refl _ _).alloc _
  obtain ⟨v2, w2, hr2, h2, c2, b2⟩ := h0.append (hv.chg0 (hTa.chg.nil_trans c0)) (by simp; omega) (by simp) 23
  rw [List.nil_append] at h2
  have c12 : Chg [] w1 w2 := c0.trans c2 (fun k hk => .inr (by rw [ob_some] at hk; simp at hk; omega))
  obtain ⟨v3, w3, hr3, h3, c3, b3⟩ := h2.append (hm.chg0 (hTa.chg.nil_trans c12)) (by omega) c12.size 23
  have hol := own_lt h2.1
  have c13 : Chg [] w1 w3 := c12.trans c3 (fun k hk => .inr (hol k hk).1)
  have c03 := hTa.chg.nil_trans c13
  have hofb2 := hofb w3 c03 v3 h3.hs
  have hTwo0 : ∀ bb tb W, TreeOf w3 W bb tb wd (ls ++ ms) → Two w0 W ba ta bb tb wd ls (ls ++ ms) := fun bb tb W h =>
    ⟨(hTa.chg0 c13).chg0 h.chg, h.rebase c03, fun k hk hm => by have := hTa.tr.lt k hk; have := h.low k hm; have := c13.size; omega⟩
  have HO := Lib.hid hofb2
  have HT0 := Lib.hid hTwo0
  have HK := Lib.hid hk
  clear hofa hofb hofb2 hTwo0 h0 c0 h2 c2 b2 c12 h3 c3 b3 hol c13 hv hm hTa hk
  go_wp2_with (first
    | (at_builtin; refine Lib.wpList_append_run _ rfl _ _ _ _ rfl _ _ rfl rfl _ _ hr2 ?_)
    | (at_builtin; refine Lib.wpList_append_run _ rfl _ _ _ _ rfl _ _ rfl rfl _ _ hr3 ?_)
    | (go_at_call 17; refine HO.out.mono ?_; rintro e w4 ⟨bb, tb, rfl, hTb⟩)
    | (go_at_call 22; (with_reducible refine (hn1 _).mono ?_); rintro e w5 ⟨rfl, hw5⟩; obtain rfl : w4 = w5 := hw5.symm)
    | (go_at_call 22; (with_reducible refine (hn2 _).mono ?_); rintro e w5 ⟨rfl, hw5⟩; obtain rfl : w4 = w5 := hw5.symm))
  have hTw := HT0.out bb tb w4 hTb
  clear HO HT0 hTb hn1 hn2 hr2 hr3
  go_loopg [15, 16] (nodesN (ls.length + ms.length) - nodesN ls.length) (fun g vv pp wx => ∃ i : Nat, i ≤ nodesN (ls.length + ms.length) - nodesN ls.length ∧ g = nodesN (ls.length + ms.length) - nodesN ls.length - i ∧ pp = .int .u64 (nodesN ls.length + i : Nat) ∧ HOwn wx w4.heap.size vv (nodesL (treeV (widthI wd) (ls ++ ms)) (nodesN ls.length) i) ∧ Chg [] w4 wx)
  case atStart => exact ⟨0, by omega, by omega, rfl, HOwn.nil _ _, Chg.refl _ _⟩
  case round =>
    obtain ⟨i, hi, hg, rfl, hO, hC⟩ := hrel
    have hTr := hTw.chg0 hC
    by_cases hlt : nodesN ls.length + i < nodesN (ls.length + ms.length)
    · have hlt' := hlt
      have hnode := hTr.b.nodeCall (nodesN ls.length + i) (by rw [List.length_append]; exact hlt) (by rw [List.length_append]; omega)
      have hH := treeV_is wd (ls ++ ms) hTr.b (nodesN ls.length + i)
      have hsu := nodesL_succ (treeV (widthI wd) (ls ++ ms)) (nodesN ls.length) i
      have hpush := fun (W : World) (hc : Chg [] wr W) => (hO.chg hc (by simp)).push ((treeV (widthI wd) (ls ++ ms)).get (nodesN ls.length + i)) hH (by rw [nodesL_length]; omega) (by have := hC.size; have := hc.size; omega) 23
      have hs1 := hH.1
      have hs2 := hH.one
      have hpb : nodesN ls.length + i < 1000 := by omega
      have HSU := Lib.hid hsu
      have HP := Lib.hid hpush
      have HN := Lib.hid hnode
      have HG := Lib.hid hg
      have HO := Lib.hid hO
      have HTW := Lib.hid hTw
      clear hnode hsu hpush hg hO hTw hTr hH
      generalize hPe : nodesN ls.length + i = P at *
      have HPE : Shut (nodesN ls.length + i = P) := ⟨hPe⟩
      clear hPe
      generalize (treeV (widthI wd) (ls ++ ms)).get P = H at *
      go_upto_region 16 with (go_at_call 23; refine HN.out.mono ?_; rintro e w5 ⟨rfl, hc5⟩)
      have hcW : Chg [] wr (w5.alloc (.cells H 26)) := hc5.alloc _
      have r1 := rng?_alloc_at w5 w5.heap.size 32 H 26 rfl hs1
      have l1 := World.block_lt_of_cell? _ _ ((rng?_cell r1).2 0 (by omega))
      obtain ⟨v6, w6, hrun, hO6, hc6, hob6⟩ := HP.out _ hcW
      have hol := own_lt (HO.out.chg hcW (by simp)).1
      have HW : Chg [] w4 w6 := (hC.nil_trans hcW).trans hc6 (fun k hk => .inr (hol k hk).1)
      have HO6 := Lib.hid hO6
      rw [World.size_alloc] at hrun
      clear hO6 hc6 hob6 hol hcW hc5
      go_wp2_with (at_builtin; refine Lib.wpList_append_run _ rfl _ _ _ _ rfl _ _ rfl rfl _ _ hrun ?_)
      go_roundg (nodesN (ls.length + ms.length) - nodesN ls.length - (i + 1))
      case measure => rw [HG.out]; have := HPE.out; omega
      case rel => exact ⟨i + 1, by have := HPE.out; omega, rfl, by rw [show ((nodesN ls.length + (i + 1) : Nat) : Int) = (P : Int) + 1 from by have := HPE.out; omega], by rw [HSU.out]; exact HO6.out, HW⟩
    · obtain rfl : i = nodesN (ls.length + ms.length) - nodesN ls.length := by omega
      have hTr2 := hTr
      clear hTr
      have hni := hO.2
      have hnl := nodesL_length (treeV (widthI wd) (ls ++ ms)) (nodesN ls.length) (nodesN (ls.length + ms.length) - nodesN ls.length)
      have hnat := nodesL_at (treeV (widthI wd) (ls ++ ms)) (nodesN ls.length) (nodesN (ls.length + ms.length) - nodesN ls.length)
      generalize nodesL (treeV (widthI wd) (ls ++ ms)) (nodesN ls.length) (nodesN (ls.length + ms.length) - nodesN ls.length) = ns at *
      obtain ⟨_, va, vcap, hveq, _⟩ := hO.hs
      subst hveq
      have hrow1 := row_calls wr _ ns hO.hs (by omega)
      obtain ⟨wo, rfl⟩ : ∃ wo : World, wo = wr := ⟨_, rfl⟩
      have HNI := Lib.hid hni
      have HNL := Lib.hid hnl
      have HNAT := Lib.hid hnat
      have HO := Lib.hid hO
      have HTW := Lib.hid hTr2
      have hns : ns.length ≤ 1000 := by omega
      clear hni hnl hnat hO hTr2 hTw hg
      go_wp2_with fail
      go_at_call 8
      refine hrow1.mono ?_
      rintro e w5 ⟨g5, cap5, rfl, hcap5, hg5, _, hR5, hc5⟩
      have h1i : IsHash (hash1 1) := hash1_is (by omega) (by omega)
      obtain ⟨v6, w6, hrun6, hO6, hc6, hob6⟩ := hR5.push (hash1 1) h1i (by omega) hc5.size 23
      obtain ⟨g6, cap6, rfl, hcap6, _, hg6, _⟩ := hO6.form
      have hcw6 : Chg [] wo w6 := hc5.trans hc6 (fun k hk => .inr (by rw [ob_some] at hk; simp at hk; omega))
      have hTw6 := HTW.out.chg0 hcw6
      have hins1 := install_count w6 ba ta (some ⟨g6, 0, none⟩) (ns.length + 1) cap6 ms.length hTw6.a.tr (by rw [hTw6.a.size]; omega) (by rw [hTw6.a.size]; have := HNL.out; omega) (by omega)
      have HTw6 := Lib.hid hTw6
      have HI1 := Lib.hid hins1
      have s11 := h1i.1
      have s12 := h1i.one
      clear hrow1 hR5 hO6 hc6 hob6 hTw6 hins1 hg5 hg6 h1i
      go_wp2_with (at_builtin; refine Lib.wpList_append_run _ rfl _ _ _ _ rfl _ _ rfl rfl _ _ hrun6 ?_)
      go_at_call 24
      refine HI1.out.mono ?_
      rintro e w7 ⟨rfl, hc7⟩
      have hT7 := HTw6.out.chg0 hc7
      have hsz := tSize_same w7 ba ta hT7.a.tr
      rw [hT7.a.size] at hsz
      have hO7 := HO.out.chg (hcw6.nil_trans hc7) (by simp)
      have hrow2 := row_calls w7 _ ns hO7.hs (by omega)
      have c67 := hcw6.nil_trans hc7
      have HT7 := Lib.hid hT7
      have HSZ := Lib.hid hsz
      have HR2 := Lib.hid hrow2
      clear hT7 hsz hO7 hrow2 HI1 HTw6 hrun6 hc5 hcw6 hc7
      go_wp2_with (go_at_call 25; refine HSZ.out.mono ?_; rintro e w8 ⟨rfl, hw8⟩; obtain rfl : w7 = w8 := hw8.symm)
      go_at_call 8
      refine HR2.out.mono ?_
      rintro e w9 ⟨g9, cap9, rfl, hcap9, hg9, _, hR9, hc9⟩
      have hT9 := HT7.out.chg0 hc9
      have hlt7 := HT7.out.a.tr.lt
      have hin := hT9.a.n
      have hia := hT9.a.al
      have hbl := nodes_le ls.length
      have hins2 := install_calls w9 ba ta (some ⟨g9, 0, none⟩) cap9 ms.length ns hT9.a.tr HNI.out (fun W hc => (hR9.chg hc (fun k hk hm => by
        rw [ob_some] at hk
        simp at hk
        subst hk
        have := hlt7 _ hm
        omega)).hs) (by rw [hT9.a.size]; omega) (by rw [hT9.a.size]; exact HNL.out) (by omega) (by omega) (by omega)
      have HT9 := Lib.hid hT9
      have HI2 := Lib.hid hins2
      clear hT9 hins2 hR9 hlt7 hin hia hbl HT7 HSZ HR2
      go_wp2_with fail
      go_at_call 24
      refine HI2.out.mono ?_
      intro e w10 hp
      obtain ⟨he, ta', h1, hc10, hn10⟩ := HT9.out.a.install HNL.out HNAT.out hp
      subst he
      have hT10 := HT9.out.stepA h1 hc10 hn10
      have HT10 := Lib.hid hT10
      clear hp h1 hc10 hn10 hT10 HI2 HT9 HTW HO HNAT HNI HNL hC hc9 c67
      go_wp2
      go_loopg [19] (nodesN (ls.length + ms.length)) (fun g pp wx => ∃ p : Nat, p ≤ nodesN (ls.length + ms.length) ∧ g = nodesN (ls.length + ms.length) - p ∧ pp = .int .u64 p ∧ Chg [] w10 wx)
      case atStart => exact ⟨0, by omega, by omega, rfl, Chg.refl _ _⟩
      case round =>
        obtain ⟨p, hp, hg, rfl, hC⟩ := hrel
        have hTr := HT10.out.chg0 hC
        have hll : (ls ++ ms).length = ls.length + ms.length := List.length_append
        by_cases hlt : p < nodesN (ls.length + ms.length)
        · have hlt' := hlt
          have hna := hTr.a.nodeCall p (by rw [hll]; exact hlt) (by omega)
          have hnb := fun (W : World) (hc : Chg [] wr W) => (hTr.chg0 hc).b.nodeCall p (by rw [hll]; exact hlt) (by omega)
          have hH := treeV_is wd (ls ++ ms) hTr.b p
          generalize (treeV (widthI wd) (ls ++ ms)).get p = H at *
          have hs1 := hH.1
          have hs2 := hH.one
          have heq : eqH H H = true := eqH_self
          have HA := Lib.hid hna
          have HB := Lib.hid hnb
          have HG := Lib.hid hg
          have hp3 : p < 1000 := by omega
          clear hna hnb hg hTr hll
          go_wp2_with fail
          go_at_call 23
          refine HA.out.mono ?_
          rintro e w11 ⟨rfl, hc11⟩
          have c11 : Chg [] wr (w11.alloc (.cells H 26)) := hc11.alloc _
          have r1 := rng?_alloc_at w11 w11.heap.size 32 H 26 rfl hs1
          have hb2 := HB.out _ c11
          have HB2 := Lib.hid hb2
          clear hb2 hc11
          go_wp2_with fail
          generalize w11.alloc (.cells H 26) = w12 at *
          generalize w11.heap.size = g20 at *
          go_at_call 23
          refine HB2.out.mono ?_
          rintro e w13 ⟨rfl, hc13⟩
          have c13 : Chg [] wr (w13.alloc (.cells H 26)) := (c11.nil_trans hc13).alloc _
          have r2 := rng?_chg (hc13.alloc (.cells H 26)) r1 (by omega) (by simp)
          have r3 := rng?_alloc_at w13 w13.heap.size 32 H 26 rfl hs1
          have l2 := World.block_lt_of_cell? _ _ ((rng?_cell r2).2 0 (by omega))
          have l3 := World.block_lt_of_cell? _ _ ((rng?_cell r3).2 0 (by omega))
          clear r1 c11 hc13
          go_wp2
          go_roundg (nodesN (ls.length + ms.length) - (p + 1))
          case measure => rw [HG.out]; omega
          case rel => exact ⟨p + 1, by omega, rfl, by go_num, hC.nil_trans c13⟩
        · have h9 : IsHash (hash1 9) := hash1_is (by omega) (by omega)
          have hca := hTr.a.call h9 (HK.out.chg0 hTr.a.chg) (by omega)
          have HTr := Lib.hid hTr
          have HCA := Lib.hid hca
          have s91 := h9.1
          have s92 := h9.one
          have hee : (((ls ++ ms).length : Int) == ((ls ++ ms).length : Int)) = true := by rw [beq_iff_eq]
          have hl9' : ((ls ++ ms) ++ [hash1 9]).length ≤ 1000000 := by rw [List.length_append, hll]; simp; omega
          have hl9 : ((ls ++ ms) ++ [hash1 9]).length ≤ 1000 := by rw [List.length_append, hll]; simp; omega
          have hll2 : (ls ++ ms).length ≤ 1000 := by omega
          clear hTr hca hg HT10 hll
          generalize ls ++ ms = la at *
          go_wp2_with fail
          go_at_call 20
          refine HCA.out.mono ?_
          rintro e w11 ⟨rfl, ta2, h1, hc11, hn11⟩
          have hT11 := HTr.out.stepA h1 hc11 hn11
          have hcb := hT11.b.call h9 (HK.out.chg0 hT11.a.chg) (by omega)
          have HT11 := Lib.hid hT11
          have HCB := Lib.hid hcb
          clear hT11 hcb h1 hc11 hn11 HTr HCA
          go_wp2_with fail
          go_at_call 20
          refine HCB.out.mono ?_
          rintro e w12 ⟨rfl, tb2, h1, hc12, hn12⟩
          have hT12 := HT11.out.stepB h1 hc12 hn12
          have hk12 := HK.out.chg0 hT12.a.chg
          have hra := hT12.a.rootCall hk12 hl9'
          have hrb := fun (W : World) (hc : Chg [] w12 W) => (hT12.chg0 hc).b.rootCall (hk12.chg0 hc) hl9'
          have hpa := fun (W : World) (hc : Chg [] w12 W) => (hT12.chg0 hc).a.peaksCall hl9'
          have hpb := fun (W : World) (hc : Chg [] w12 W) => (hT12.chg0 hc).b.peaksCall hl9'
          have hX := hT12.a.rootIs
          have hch := hT12.a.chg
          have hpl : (peaksV wd (la ++ [hash1 9])).length ≤ 63 := by unfold peaksV; rw [List.length_map]; exact pkL_len _ 63
          generalize rootL wd (la ++ [hash1 9]) = X at *
          generalize peaksV wd (la ++ [hash1 9]) = pks at *
          have hX1 := hX.1
          have hX2 := hX.one
          have qX : eqH X X = true := eqH_self
          have HRA := Lib.hid hra
          have HRB := Lib.hid hrb
          have HPA := Lib.hid hpa
          have HPB := Lib.hid hpb
          have HK2 := Lib.hid hk12
          clear hra hrb hpa hpb hT12 h1 hc12 hn12 HT11 HCB hk12
          go_wp2_with fail
          go_at_call 18
          refine HRA.out.mono ?_
          rintro e w13 ⟨rfl, hc13⟩
          go_wp2_with fail
          go_at_call 18
          refine (HRB.out _ hc13).mono ?_
          rintro e w14 ⟨rfl, hc14⟩
          have c14 := hc13.nil_trans hc14
          go_wp2_with fail
          go_at_call 19
          refine (HPA.out _ c14).mono ?_
          rintro e w15 ⟨v15, rfl, hO15, hc15⟩
          have c15 := c14.nil_trans hc15
          go_wp2_with fail
          go_at_call 19
          refine (HPB.out _ c15).mono ?_
          rintro e w16 ⟨v16, rfl, hO16, hc16⟩
          have c16 := c15.nil_trans hc16
          have hsame := same_calls w16 v15 v16 pks (hO15.chg hc16 (by simp)).hs hO16.hs (by omega)
          have HSM := Lib.hid hsame
          clear hsame hO15 hO16
          go_wp2_with fail
          go_at_call 11
          refine HSM.out.mono ?_
          rintro e w17 ⟨rfl, hc17⟩
          have c17 := c16.nil_trans hc17
          have haw := awake_calls w17 (HK2.out.chg0 c17)
          have HAW := Lib.hid haw
          clear haw
          go_wp2_with fail
          go_at_call 13
          refine HAW.out.mono ?_
          rintro e w18 ⟨rfl, hc18⟩
          go_wp2
          go_ret
          exact ⟨rfl, hch.nil_trans (c17.nil_trans hc18)⟩
set_option maxRecDepth 100000 in
theorem installs_row (w : World) (wd : Int) (hwd : -9223372036854775808 ≤ wd ∧ wd < 9223372036854775808) (lv : Value) (ls : List (Array Value)) (hv : HsIs w lv ls) (mv : Value) (ms : List (Array Value)) (hm : HsIs w mv ms) (hk : HIs w) :
    Calls Tryd.prog 6 #[.int .i64 wd, lv, mv] w (Res w [] (.bool true)) := by
  by_cases h : ls.length ≤ 200
  · by_cases h2 : ms.length ≤ 200
    · exact installs_walk w wd hwd lv ls hv mv ms hm h h2 hk
    · obtain ⟨_, a, cap, rfl, _⟩ := hv
      obtain ⟨_, a2, cap2, rfl, _⟩ := hm
      have g1 : decide ((200 : Int) < (ls.length : Int)) = false := decide_eq_false (by omega)
      have g2 : decide ((200 : Int) < (ms.length : Int)) = true := decide_eq_true (by omega)
      go_enter Tryd.func6, Tryd.ntmps6
      go_wp2
      go_ret
      exact ⟨rfl, Chg.refl _ _⟩
  · obtain ⟨_, a, cap, rfl, _⟩ := hv
    obtain ⟨_, a2, cap2, rfl, _⟩ := hm
    have g1 : decide ((200 : Int) < (ls.length : Int)) = true := decide_eq_true (by omega)
    go_enter Tryd.func6, Tryd.ntmps6
    go_wp2
    go_ret
    exact ⟨rfl, Chg.refl _ _⟩
end Go.Proofs.YtogkfjljdmbogaaDoor
