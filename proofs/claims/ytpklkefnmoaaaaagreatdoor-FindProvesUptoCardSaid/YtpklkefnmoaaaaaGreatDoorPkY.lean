/- Texts put into one by pack.py: PlG PlH PvB. -/
import Derived.Test.YtpklkefnmoaaaaaGreatDoorPkV
import Derived.Test.YtpklkefnmoaaaaaGreatDoorMpEp
import Derived.Test.YtpklkefnmoaaaaaGreatDoorPkD
import Derived.Test.YtpklkefnmoaaaaaGreatDoorPkW
/- proof.fetch walked, over a source of nodes: a tree, a keep. -/
namespace Go.Proofs.YtpklkefnmoaaaaaGreatDoor
open Go.RowKit
set_option linter.unusedVariables false
set_option linter.unusedSimpArgs false
set_option maxRecDepth 100000 in
set_option maxHeartbeats 8000000 in
theorem fetchT_calls (w : World) (rb : Nat) (gE : Nat → Int) (gH : Nat → Array Value)
    (hgH : ∀ (p : Nat), IsHash (gH p))
    (hnode : ∀ (p : Nat), p < 18446744073709551616 → ∀ W, Chg [] w W → Calls Tryz.prog 50 #[.pointer (some ⟨rb, 0, none⟩), .int .u64 p] W (Res W [] (.tuple #[.agg (gH p), .int .i64 (gE p)])))
    (pv : Value) (ps : List Nat) (B : Nat) (hU : UOwn w B pv ps) (hplt : ∀ p ∈ ps, p < 18446744073709551616) (hpl : ps.length ≤ 125) :
    Calls Tryz.prog 121 #[.iface 24 (.pointer (some ⟨rb, 0, none⟩)), pv] w (AtG gE gH ps w) := by
  obtain ⟨w0, rfl⟩ : ∃ w0 : World, w0 = w := ⟨_, rfl⟩
  obtain ⟨pa, pcap, rfl, hpc⟩ := hU.cells
  clear hU
  have hm : ∀ w : World, (method 431 24 (.pointer (some ⟨rb, 0, none⟩)) "Node").run Tryz.prog w = .ok (50, .pointer (some ⟨rb, 0, none⟩)) w := fun _ => by kernel_rfl
  go_enter Tryz.func121, Tryz.ntmps121
  go_wp2
  go_loopg [6, 13] ps.length (fun g vv ii wx => ∃ i : Nat, i ≤ ps.length ∧ g = ps.length - i ∧ ii = .int .i64 i ∧ HOwn wx w0.heap.size vv ((ps.take i).map gH) ∧ (∀ p ∈ ps.take i, gE p = 0) ∧ Chg [] w0 wx)
  case atStart => exact ⟨0, by omega, by omega, rfl, HOwn.nil _ _, by simp, Chg.refl _ _⟩
  case round =>
    obtain ⟨i, hi, hg, rfl, hO, hE, hC⟩ := hrel
    by_cases hlt : i < ps.length
    · have hlt' : i < ps.length := hlt
      rcases hpc with hpc | ⟨pb, po, rfl, hpb, hpc⟩
      · subst hpc; simp at hlt'
      have hcell := (hC.cell (p := ⟨pb, po + i, none⟩) hpb (by simp)).trans (hpc i hlt')
      have hbl := World.block_lt_of_cell? _ _ hcell
      have htk : ps.take (i + 1) = ps.take i ++ [ps[i]] := List.take_succ_eq_append_getElem hlt'
      have hnd := fun (W : World) (hc : Chg [] wr W) => hnode ps[i] (hplt _ (List.getElem_mem hlt')) W (hC.nil_trans hc)
      have hgi : IsHash (gH ps[i]) := hgH _
      have hH1 := hgi.1
      have hH2 := hgi.one
      have hpush := fun (W : World) (hc : Chg [] wr W) => (hO.chg hc (by simp)).push (gH ps[i]) hgi (by rw [List.length_map, List.length_take]; omega) (by have := hC.size; have := hc.size; omega) 39
      have hj : ∀ j (hj : j < i), gE ps[j] = 0 := fun j hj => hE _ (by have := List.getElem_mem (l := ps.take i) (n := j) (by rw [List.length_take]; omega); rwa [List.getElem_take] at this)
      have hE2 : gE ps[i] = 0 → ∀ p ∈ ps.take (i + 1), gE p = 0 := fun h0 p hp => by
        rw [htk] at hp
        rcases List.mem_append.1 hp with q | q
        · exact hE p q
        · rw [List.mem_singleton.1 q]; exact h0
      have hmap : (ps.take (i + 1)).map gH = (ps.take i).map gH ++ [gH ps[i]] := by rw [htk, List.map_append]; rfl
      have hfin : gE ps[i] ≠ 0 → ∀ W, Chg [] w0 W → AtG gE gH ps w0 (.returned (.tuple #[.slice none 0 0, .int .i64 (gE ps[i])])) W := fun h0 W hW => by
        refine ⟨none, 0, by rw [atE_first i hlt' hj h0, atL_first i hlt' h0]; rfl, ?_, hW⟩
        rw [atL_first i hlt' h0]
        exact HOwn.nil _ _
      have hbox := fun (W : World) (hc : Chg [] wr W) => W.alloc (.cells (gH ps[i]) 36)
      have HM := Lib.hid hmap
      have HE2 := Lib.hid hE2
      have HP := Lib.hid hpush
      have HO := Lib.hid hO
      have HF := Lib.hid hfin
      have HG := Lib.hid hg
      clear htk hmap hE hE2 hpush hO hgi hplt hpc hj hfin hg hbox hnode hgH
      generalize ps[i] = p at *
      generalize gH p = H at *
      generalize gE p = E at *
      go_upto_region 6 with (go_at_call 50; refine (hnd _ (Chg.refl _ _)).mono ?_; rintro e w3 ⟨rfl, hc3⟩)
      have hC3 : Chg [] wr (w3.alloc (.cells H 36)) := hc3.alloc _
      have hr8 : rng? (w3.alloc (.cells H 36)) w3.heap.size 0 32 = some H := rng?_alloc_at _ _ _ _ _ rfl hH1
      have hl8 : w3.heap.size < (w3.alloc (.cells H 36)).heap.size := by rw [World.size_alloc]; omega
      have hC8 : Chg [] w0 (w3.alloc (.cells H 36)) := hC.nil_trans hC3
      clear hc3 hnd
      generalize w3.alloc (.cells H 36) = w4 at *
      generalize w3.heap.size = g8 at *
      by_cases hE0 : E = 0
      · subst hE0
        obtain ⟨v2, w2, hrun, hO2, hc2, hob⟩ := HP.out _ hC3
        have hol := own_lt (HO.out.chg hC3 (by simp)).1
        have HW : Chg [] w0 w2 := hC8.trans hc2 (fun k hk => .inr (hol k hk).1)
        have HO2 := Lib.hid hO2
        clear hO2 hc2 hob hol HF
        go_wp2_with (at_builtin; refine Lib.wpList_append_run _ rfl _ _ _ _ rfl _ _ rfl rfl _ _ hrun ?_)
        go_roundg (ps.length - (i + 1))
        case measure => rw [HG.out]; omega
        case rel => exact ⟨i + 1, by omega, rfl, by go_num, by rw [HM.out]; exact HO2.out, HE2.out (by first | rfl | trivial), HW⟩
      · have hne : (E != 0) = true := by rw [bne_iff_ne]; exact hE0
        have hf := HF.out hE0
        clear HF HP HE2 hE0
        have HF := Lib.hid hf
        clear hf
        go_wp2
        go_ret2
        exact HF.out _ hC8
    · obtain rfl : i = ps.length := by omega
      rw [List.take_length] at hO hE
      rw [← atL_all (gH := gH) hE] at hO
      obtain ⟨a, cap, rfl⟩ := hO.shp
      have hfin : AtG gE gH ps w0 (.returned (.tuple #[.slice a (atL gE gH ps).length cap, .int .i64 0])) wr := ⟨a, cap, by rw [atE_all hE], hO, hC⟩
      have HF := Lib.hid hfin
      clear hg hpc hfin hO hE
      generalize (atL gE gH ps).length = m at *
      go_wp2
      go_ret2
      exact HF.out
end Go.Proofs.YtpklkefnmoaaaaaGreatDoor

/- proof.Make walked, over a source of nodes. -/
namespace Go.Proofs.YtpklkefnmoaaaaaGreatDoor
open Go.RowKit
set_option linter.unusedVariables false
set_option linter.unusedSimpArgs false
theorem peaks_64O {n : Nat} (hn : n ≤ 4611686018427387904) : ∀ p ∈ peaksN n, p < 18446744073709551616 := fun p hp => by have := peaks_lt n p hp; have := nodes_lt n hn; omega
theorem atE_zeroO {gE : Nat → Int} : ∀ {ps : List Nat}, atE gE ps = 0 → ∀ p ∈ ps, gE p = 0
  | [], _, p, hp => by simp at hp
  | q :: l, h, p, hp => by
    rw [atE] at h
    split at h
    · rename_i h0
      rcases List.mem_cons.1 hp with rfl | hp
      · exact h0
      · exact atE_zeroO h p hp
    · rename_i h0; exact absurd h h0
def MakeP (gE : Nat → Int) (gH : Nat → Array Value) (i n : Nat) (w : World) (e : Ending) (w' : World) : Prop :=
  Chg [] w w' ∧ if atE gE (placesN i n) = 0 then ∃ a cap, e = .returned (.tuple #[.agg #[.int .u64 n, .int .u64 i, .slice a (placesN i n).length cap], .int .i64 0]) ∧ HOwn w' w.heap.size (.slice a (placesN i n).length cap) ((placesN i n).map gH)
    else e = .returned (.tuple #[.agg #[.int .u64 0, .int .u64 0, .slice none 0 0], .int .i64 (atE gE (placesN i n))])
theorem MakeP.mk {gE : Nat → Int} {gH : Nat → Array Value} {i n : Nat} {w w' : World} {ps : List Nat} {a : Option Addr} {cap : Nat} (hps : placesN i n = ps) (hO : HOwn w' w.heap.size (.slice a (atL gE gH ps).length cap) (atL gE gH ps)) (hC : Chg [] w w') :
    MakeP gE gH i n w (.returned (.tuple #[if atE gE ps = 0 then .agg #[.int .u64 n, .int .u64 i, .slice a (atL gE gH ps).length cap] else .agg #[.int .u64 0, .int .u64 0, .slice none 0 0], .int .i64 (atE gE ps)])) w' := by
  subst hps
  refine ⟨hC, ?_⟩
  by_cases h : atE gE (placesN i n) = 0
  · rw [if_pos h, if_pos h]
    rw [atL_all (atE_zeroO h), List.length_map] at hO ⊢
    exact ⟨a, cap, by rw [h], hO⟩
  · rw [if_neg h, if_neg h]
theorem pl_lt {h k : Nat} (hh : h ≤ 62) (hk : (k + 1) * 2 ^ h ≤ 4611686018427387904) : pl h k < 18446744073709551616 := by
  unfold pl
  have := nodes_le ((k + 1) * 2 ^ h - 1)
  omega
theorem placesN_64 {i n : Nat} (hi : i < n) (hn : n ≤ 4611686018427387904) : ∀ p ∈ placesN i n, p < 18446744073709551616 := fun p hp => by
  unfold placesN at hp
  rcases List.mem_append.1 hp with q | q
  · unfold pathN at q
    obtain ⟨h, hh, rfl⟩ := List.mem_map.1 q
    have hf := sib_fit hi hn (List.mem_range.1 hh)
    exact pl_lt hf.2 (Nat.le_trans hf.1 hn)
  · exact peaks_64O hn p (List.mem_of_mem_eraseIdx q)
set_option maxRecDepth 100000 in
set_option maxHeartbeats 8000000 in
theorem makeT_calls (w : World) (rb : Nat) (gE : Nat → Int) (gH : Nat → Array Value) (hgH : ∀ (p : Nat), IsHash (gH p))
    (hnode : ∀ (p : Nat), p < 18446744073709551616 → ∀ W, Chg [] w W → Calls Tryz.prog 50 #[.pointer (some ⟨rb, 0, none⟩), .int .u64 p] W (Res W [] (.tuple #[.agg (gH p), .int .i64 (gE p)])))
    (i n : Nat) (hi : i < n) (hn : n ≤ 4611686018427387904) :
    Calls Tryz.prog 39 #[.iface 24 (.pointer (some ⟨rb, 0, none⟩)), .int .u64 i, .int .u64 n] w (MakeP gE gH i n w) := by
  have hpl := fun W => places_ok i n hi hn W
  have hft := fun (W : World) (pv : Value) (hc : Chg [] w W) (B : Nat) (hU : UOwn W B pv (placesN i n)) => fetchT_calls W rb gE gH hgH (fun p hp W' h => hnode p hp W' (hc.nil_trans h)) pv _ B hU (placesN_64 hi hn) (placesN_len hi hn)
  have HF := Lib.hid hft
  clear hft hnode
  obtain ⟨ps, hps⟩ : ∃ ps, placesN i n = ps := ⟨_, rfl⟩
  rw [hps] at HF hpl
  have hm := fun (w2 : World) (a : Option Addr) (cap : Nat) (hO : HOwn w2 w.heap.size (.slice a (atL gE gH ps).length cap) (atL gE gH ps)) (hC : Chg [] w w2) => MakeP.mk (w' := w2) hps hO hC
  have HM := Lib.hid hm
  clear hm hgH hps
  obtain ⟨E, hE⟩ : ∃ E, atE gE ps = E := ⟨_, rfl⟩
  obtain ⟨L, hL⟩ : ∃ L, atL gE gH ps = L := ⟨_, rfl⟩
  unfold AtG at HF
  rw [hE, hL] at HF HM
  clear hE hL
  obtain ⟨w0, rfl⟩ : ∃ w0 : World, w0 = w := ⟨_, rfl⟩
  go_enter Tryz.func39, Tryz.ntmps39
  go_upto_region 1 with (fail)
  have hcb : Chg [] w0 (w0.alloc (.cells #[.int .u64 0, .int .u64 0, .slice none 0 0] 59)) := (Chg.refl _ _).alloc _
  have hbb := blk_new w0 (.cells #[.int .u64 0, .int .u64 0, .slice none 0 0] 59)
  generalize w0.alloc (.cells #[.int .u64 0, .int .u64 0, .slice none 0 0] 59) = wb at *
  obtain ⟨G, hG⟩ : ∃ G, w0.heap.size = G := ⟨_, rfl⟩
  rw [hG] at hbb HM
  have hGl := blk_lt hbb
  rw [hG]
  go_upto_region 4 with (go_at_call 43; refine (hpl _).mono ?_; rintro e w1 ⟨pa, pcap, rfl, hU, hc1⟩)
  have hf := HF.out w1 _ (hcb.nil_trans hc1) _ hU
  go_upto_region 5 with (go_at_call 121; refine hf.mono ?_; rintro e w2 ⟨a, cap, rfl, hO, hc2⟩)
  have hC2 : Chg [] wb w2 := hc1.nil_trans hc2
  have hb2 := hC2.at hbb (by simp)
  have c0 := blk_cell hb2 0 rfl
  have c1 := blk_cell hb2 1 rfl
  have c2 := blk_cell hb2 2 rfl
  have f0 := blk_frozen hb2 0
  have f1 := blk_frozen hb2 1
  have f2 := blk_frozen hb2 2
  have hGl2 := blk_lt hb2
  have hO2 : HOwn w2 G (.slice a L.length cap) L := by
    rw [← hG]
    exact ⟨own_mono hO.1 (Nat.le_trans hcb.size hc1.size), hO.2⟩
  have hkG : ∀ k ∈ ob (.slice a L.length cap), k ≠ G := fun k hk e => by
    have := (own_lt hO.1 k hk).1
    have := hc1.size
    omega
  clear hU hf hO hb2
  by_cases hE0 : E = 0
  · subst hE0
    have hcs := ((((Chg.refl [G] w2).setCell (p := Addr.mk G 0 none) (.inl (by simp)) (.int .u64 (n : Int))).setCell (p := Addr.mk G 1 none) (.inl (by simp)) (.int .u64 (i : Int))).setCell (p := Addr.mk G 2 none) (.inl (by simp)) (.slice a L.length cap))
    have hO3 := hO2.chg hcs (fun k hk hm => hkG k hk (by simpa using hm))
    have hC3 : Chg [] w0 _ := (hcb.nil_trans hC2).trans hcs (fun k hk => by simp at hk; subst hk; exact .inr (Nat.le_of_eq hG))
    have hfin := HM.out _ a cap hO3 hC3
    rw [if_pos rfl] at hfin
    have HFIN := Lib.hid hfin
    clear hfin hO3 hC3 hcs hO2 hkG HM
    go_wp2
    refine bodyPost_ret (v := .tuple #[.agg #[.int .u64 n, .int .u64 i, .slice a L.length cap], .int .i64 0]) (by simp [results, Tryz.results39, go_sem, World.cell?_setCell_same, c0, c1, c2]) rfl ?_
    exact HFIN.out
  · have hne : (E != 0) = true := by rw [bne_iff_ne]; exact hE0
    have hcs := ((((Chg.refl [G] w2).setCell (p := Addr.mk G 0 none) (.inl (by simp)) (.int .u64 0)).setCell (p := Addr.mk G 1 none) (.inl (by simp)) (.int .u64 0)).setCell (p := Addr.mk G 2 none) (.inl (by simp)) (.slice none 0 0))
    have hO3 := hO2.chg hcs (fun k hk hm => hkG k hk (by simpa using hm))
    have hC3 : Chg [] w0 _ := (hcb.nil_trans hC2).trans hcs (fun k hk => by simp at hk; subst hk; exact .inr (Nat.le_of_eq hG))
    have hfin := HM.out _ a cap hO3 hC3
    rw [if_neg hE0] at hfin
    have HFIN := Lib.hid hfin
    clear hfin hO3 hC3 hcs hO2 hkG HM
    go_wp2
    refine bodyPost_ret (v := .tuple #[.agg #[.int .u64 0, .int .u64 0, .slice none 0 0], .int .i64 E]) (by simp [results, Tryz.results39, go_sem, World.cell?_setCell_same, c0, c1, c2]) rfl ?_
    exact HFIN.out
end Go.Proofs.YtpklkefnmoaaaaaGreatDoor

/- A find's Prove walked, over a source of nodes. -/
namespace Go.Proofs.YtpklkefnmoaaaaaGreatDoor
open Go.RowKit
set_option linter.unusedVariables false
set_option linter.unusedSimpArgs false
attribute [local go_sem ↓] hold_luY
/-- What is answered for several leaves, one behind the other. -/
def pvE (gE : Nat → Int) (n : Nat) (l : List Nat) : Int := if l = [] then 32 else atE (fun i => atE gE (placesN i n)) l
def pvOf (gH : Nat → Array Value) (n i : Nat) : Nat × Nat × List (Array Value) := (n, i, (placesN i n).map gH)
def pvL (gE : Nat → Int) (gH : Nat → Array Value) (n : Nat) (l : List Nat) : List (Nat × Nat × List (Array Value)) := if pvE gE n l = 0 then l.map (pvOf gH n) else []
def ProveP (gE : Nat → Int) (gH : Nat → Array Value) (n : Nat) (l : List Nat) (w : World) (e : Ending) (w' : World) : Prop :=
  ∃ (v : Value) (ps : List PR), e = .returned (.tuple #[v, .int .i64 (pvE gE n l)]) ∧ PsOwn w' w.heap.size v ps ∧ ps.map PR.dat = pvL gE gH n l ∧ Chg [] w w'
set_option maxRecDepth 100000 in
set_option maxHeartbeats 8000000 in
theorem proveT_calls (w : World) (b : Nat) (f : FS) (hf : FdIs w b f) (hl : f.ls.length ≤ 100000) (k : HK) (rb : Nat) (gE : Nat → Int) (gH : Nat → Array Value) (hgH : ∀ (p : Nat), IsHash (gH p))
    (hnode : ∀ (p : Nat), p < 18446744073709551616 → ∀ W, Chg [] w W → Calls Tryz.prog 50 #[.pointer (some ⟨rb, 0, none⟩), .int .u64 p] W (Res W [] (.tuple #[.agg (gH p), .int .i64 (gE p)]))) :
    Calls Tryz.prog 27 #[.pointer (some ⟨b, 0, none⟩), .iface 24 (.pointer (some ⟨rb, 0, none⟩)), .agg k.1] w (ProveP gE gH f.ls.length (idxOf k f.ls) w) := by
  have hk1 := k.2.1
  have hk2 := k.2.one
  have hc1 : Chg [] w (w.alloc (.cells k.1 36)) := (Chg.refl [] w).alloc _
  have h1 := hf.chg0 hc1
  have hbx := rng?_row (blk_new w (.cells k.1 36)) hk1
  have hLn : w.heap.size < (w.alloc (.cells k.1 36)).heap.size := by simp
  have c1 : (w.alloc (.cells k.1 36)).cell? ⟨b, 1, none⟩ = some (.map (some f.m)) := blk_cell h1.mem 1 rfl
  have hb := blk_lt h1.mem
  have hlk : ∀ n, (luY 144 (.map (some f.m)) (.agg k.1) false).run Tryz.prog ((w.alloc (.cells k.1 36)).drewN n) = .ok ((mget f.mp k).getD (.slice none 0 0)) ((w.alloc (.cells k.1 36)).drewN n) := fun n => (h1.chg0 ((Chg.refl [] _).drewN n)).look k
  have hU := h1.cur k
  have hidl := idxOf_length k f.ls
  have hidm : ∀ i ∈ idxOf k f.ls, i < f.ls.length := fun i hi => by
    unfold idxOf at hi
    exact List.mem_range.1 (List.mem_filter.1 hi).1
  have hsz := fun (W : World) (hc : Chg [] w W) => dSize_calls W b f (hf.chg0 hc) (by omega)
  have hmk := fun (W : World) (i : Nat) (hc : Chg [] w W) (hi : i < f.ls.length) => makeT_calls W rb gE gH hgH (fun p hp W' h => hnode p hp W' (hc.nil_trans h)) i f.ls.length hi (by omega)
  have HMK := Lib.hid hmk
  have HSZ := Lib.hid hsz
  have HID := Lib.hid hidm
  clear hmk hsz hidm hnode h1 hf
  generalize idxOf k f.ls = l at *
  generalize (mget f.mp k).getD (.slice none 0 0) = u at *
  generalize f.ls.length = n at *
  obtain ⟨ua, ucap, rfl, huc⟩ := hU.cells
  clear hU
  have hcb := hc1.drewN
  by_cases hnil : l = []
  · subst hnil
    have hfin : ∀ W, Chg [] w W → ProveP gE gH n [] w (.returned (.tuple #[.slice none 0 0, .int .i64 32])) W := fun W hW => ⟨.slice none 0 0, [], rfl, PsOwn.nil _ _, rfl, hW⟩
    have HF := Lib.hid hfin
    clear hfin huc HMK HSZ HID hidl hgH
    rw [show (([] : List Nat).length) = 0 from rfl] at hlk
    go_enter Tryz.func27, Tryz.ntmps27
    go_upto_region 1 with (fail)
    generalize w.alloc (.cells k.1 36) = wb at *
    go_quiet (fail)
    go_wp2
    go_ret2
    exact HF.out _ (hcb _)
  have hlp : 0 < l.length := List.length_pos_iff.2 hnil
  have hl0 : ((l.length : Int) == 0) = false := by rw [beq_eq_false_iff_ne]; omega
  rcases huc with huc | ⟨pb, po, rfl, hpb, huc⟩
  · exact absurd huc hnil
  go_enter Tryz.func27, Tryz.ntmps27
  go_upto_region 1 with (fail)
  generalize w.alloc (.cells k.1 36) = wb at *
  go_quiet (fail)
  rename Nat => nd
  clear hlk hbx hk2 hk1
  obtain ⟨wc, hwc⟩ : ∃ wc, wb.drewN nd = wc := ⟨_, rfl⟩
  have hcc : Chg [] w wc := by rw [← hwc]; exact hcb _
  have hpb2 : pb < wc.heap.size := by rw [← hwc]; exact hpb
  have huc2 : ∀ j (hj : j < l.length), wc.cell? ⟨pb, po + j, none⟩ = some (.int .u64 (l[j] : Nat)) := by rw [← hwc]; exact huc
  rw [hwc]
  clear huc hpb hwc hcb hc1 c1 hb hLn
  obtain ⟨w0, rfl⟩ : ∃ w0 : World, w0 = w := ⟨_, rfl⟩
  go_wp2
  go_loopg [9, 25] l.length (fun g vv ii wx => ∃ (j : Nat) (ps : List PR), j ≤ l.length ∧ g = l.length - j ∧ ii = .int .i64 j ∧ PsOwn wx wc.heap.size vv ps ∧ ps.map PR.dat = (l.take j).map (pvOf gH n) ∧ (∀ i ∈ l.take j, atE gE (placesN i n) = 0) ∧ Chg [] wc wx)
  case atStart => exact ⟨0, [], by omega, by omega, rfl, PsOwn.nil _ _, by simp, by simp, Chg.refl _ _⟩
  case round =>
    obtain ⟨j, ps, hj, hg, rfl, hP, hdat, hE, hC⟩ := hrel
    have HG := Lib.hid hg
    clear hg
    have hpl : ps.length = j := by
      have := congrArg List.length hdat
      rw [List.length_map, List.length_map, List.length_take] at this
      omega
    by_cases hlt : j < l.length
    · have hlt' := hlt
      have hcell := (hC.cell (p := ⟨pb, po + j, none⟩) hpb2 (by simp)).trans (huc2 j hlt')
      have hbl := World.block_lt_of_cell? _ _ hcell
      have htk : l.take (j + 1) = l.take j ++ [l[j]] := List.take_succ_eq_append_getElem hlt'
      have hCw := hcc.nil_trans hC
      have hsz := HSZ.out wr hCw
      have hin := HID.out _ (List.getElem_mem hlt')
      have hmk := HMK.out wr l[j] hCw hin
      have hH1 : atE gE (placesN l[j] n) = 0 → ∀ (w' : World) (v' : Value) (x : PR), x.dat = pvOf gH n l[j] → True := fun _ _ _ _ _ => trivial
      have hE2 : atE gE (placesN l[j] n) = 0 → ∀ i ∈ l.take (j + 1), atE gE (placesN i n) = 0 := fun h0 i hi => by
        rw [htk] at hi
        rcases List.mem_append.1 hi with q | q
        · exact hE i q
        · rw [List.mem_singleton.1 q]; exact h0
      have hmap : (l.take (j + 1)).map (pvOf gH n) = ps.map PR.dat ++ [pvOf gH n l[j]] := by rw [htk, List.map_append, hdat]; rfl
      have hfin : atE gE (placesN l[j] n) ≠ 0 → ∀ W, Chg [] w0 W → ProveP gE gH n l w0 (.returned (.tuple #[.slice none 0 0, .int .i64 (atE gE (placesN l[j] n))])) W := fun h0 W hW => by
        have he : pvE gE n l = atE gE (placesN l[j] n) := by
          unfold pvE
          rw [if_neg hnil]
          refine atE_first (gE := fun i => atE gE (placesN i n)) j hlt' (fun i hi => ?_) h0
          exact hE _ (by have := List.getElem_mem (l := l.take j) (n := i) (by rw [List.length_take]; omega); rwa [List.getElem_take] at this)
        refine ⟨.slice none 0 0, [], by rw [he], PsOwn.nil _ _, ?_, hW⟩
        unfold pvL
        rw [he, if_neg h0]
        rfl
      have hmk0 : atE gE (placesN l[j] n) = 0 → Calls Tryz.prog 39 #[.iface 24 (.pointer (some ⟨rb, 0, none⟩)), .int .u64 l[j], .int .u64 n] wr (fun e w' => Chg [] wr w' ∧ ∃ a cap, e = .returned (.tuple #[.agg #[.int .u64 n, .int .u64 l[j], .slice a (placesN l[j] n).length cap], .int .i64 0]) ∧ HOwn w' wr.heap.size (.slice a (placesN l[j] n).length cap) ((placesN l[j] n).map gH)) := fun h => hmk.mono (fun e w' he => by
        obtain ⟨h1, h2⟩ := he
        rw [if_pos h] at h2
        exact ⟨h1, h2⟩)
      have hmk1 : atE gE (placesN l[j] n) ≠ 0 → Calls Tryz.prog 39 #[.iface 24 (.pointer (some ⟨rb, 0, none⟩)), .int .u64 l[j], .int .u64 n] wr (fun e w' => Chg [] wr w' ∧ e = .returned (.tuple #[.agg #[.int .u64 0, .int .u64 0, .slice none 0 0], .int .i64 (atE gE (placesN l[j] n))])) := fun h => hmk.mono (fun e w' he => by
        obtain ⟨h1, h2⟩ := he
        rw [if_neg h] at h2
        exact ⟨h1, h2⟩)
      clear hmk
      rw [show pvOf gH n l[j] = (n, l[j], (placesN l[j] n).map gH) from rfl] at hmap
      have hln : l[j] ≤ n := Nat.le_of_lt hin
      have HM := Lib.hid hmap
      have HE2 := Lib.hid hE2
      have HF := Lib.hid hfin
      clear htk hmap hE2 hfin hH1 hE hdat HSZ HMK HID hin huc2
      have hszw : wc.heap.size ≤ wr.heap.size := hC.size
      have hall : ∀ h ∈ (placesN l[j] n).map gH, IsHash h := fun h hh => by
        obtain ⟨p, _, rfl⟩ := List.mem_map.1 hh
        exact hgH p
      have hlen : ((placesN l[j] n).map gH).length = (placesN l[j] n).length := List.length_map _
      generalize (placesN l[j] n).map gH = hs at *
      generalize (placesN l[j] n).length = hn at *
      generalize atE gE (placesN l[j] n) = E at *
      generalize l[j] = i at *
      by_cases hE0 : E = 0
      · subst hE0
        have hmk := hmk0 rfl
        clear hmk0 hmk1
        have he2 := HE2.out rfl
        clear HE2 HF
        have HE2 := Lib.hid he2
        clear he2
        go_upto_region 9 with (first
          | (go_at_call 106; refine hsz.mono ?_; rintro e w3 ⟨rfl, hw3⟩; obtain rfl : wr = w3 := hw3.symm)
          | (go_at_call 39; refine hmk.mono ?_; rintro e w4 ⟨hc4, na, ncap, rfl, hO4⟩))
        obtain ⟨x, hxd⟩ : ∃ x : PR, x = ⟨n, i, .slice na hn ncap, hs⟩ := ⟨_, rfl⟩
        have hP4 := (hP.chg0 hc4).chg0 ((Chg.refl [] w4).alloc (.cells #[.int .u64 (n : Int), .int .u64 (i : Int), .slice na hn ncap] 59))
        have hO4' : HOwn (w4.alloc (.cells #[.int .u64 (n : Int), .int .u64 (i : Int), .slice na hn ncap] 59)) wc.heap.size (.slice na hn ncap) hs := ⟨own_mono (own_chg hO4.1 ((Chg.refl [] w4).alloc _) (by simp)) hszw, hO4.2⟩
        have hap : ∀ k ∈ ob (.slice na hn ncap), k ∉ ob _ := fun k hk hk2 => by
          have h1 := (own_lt hO4.1 k hk).1
          have h2 := (own_lt hP.row k hk2).2
          omega
        have hCx : Chg [] wc (w4.alloc (.cells #[.int .u64 (n : Int), .int .u64 (i : Int), .slice na hn ncap] 59)) := (hC.nil_trans hc4).alloc _
        have hbx := blk_new w4 (.cells #[.int .u64 (n : Int), .int .u64 (i : Int), .slice na hn ncap] 59)
        generalize w4.alloc (.cells #[.int .u64 (n : Int), .int .u64 (i : Int), .slice na hn ncap] 59) = w5 at *
        generalize w4.heap.size = g12 at *
        obtain ⟨v2, w6, hrun, hP6, hc6, hob6⟩ := hP4.push x (by rw [hxd]; exact hO4') (by rw [hxd]; exact hap) (by omega) hCx.size 53
        rw [hxd] at hrun hP6
        have k0 := blk_cell hbx 0 rfl
        have k1 := blk_cell hbx 1 rfl
        have k2 := blk_cell hbx 2 rfl
        have kl := blk_lt hbx
        have hol := own_lt hP.row
        have HW : Chg [] wc w6 := hCx.trans hc6 (fun k hk => .inr (hol k hk).1)
        have HP6 := Lib.hid hP6
        clear hP6 hc6 hob6 hP4 hO4 hO4' hap hbx hol hxd hmk hsz hCx hP
        go_wp2_with (at_builtin; refine Lib.wpList_append_run _ rfl _ _ _ _ rfl _ _ rfl rfl _ _ hrun ?_)
        go_roundg (l.length - (j + 1))
        case measure => rw [HG.out]; omega
        case rel => exact ⟨j + 1, ps ++ [⟨n, i, .slice na hn ncap, hs⟩], by omega, rfl, by go_num, HP6.out, by rw [HM.out, List.map_append]; rfl, HE2.out, HW⟩
      · have hne : (E != 0) = true := by rw [bne_iff_ne]; exact hE0
        have hmk := hmk1 hE0
        clear hmk0 hmk1
        have hf := HF.out hE0
        clear HF HE2 HM
        have HF := Lib.hid hf
        clear hf
        go_upto_region 9 with (first
          | (go_at_call 106; refine hsz.mono ?_; rintro e w3 ⟨rfl, hw3⟩; obtain rfl : wr = w3 := hw3.symm)
          | (go_at_call 39; refine hmk.mono ?_; rintro e w4 ⟨hc4, rfl⟩))
        have hW := (hcc.nil_trans hC).nil_trans hc4
        go_wp2
        go_ret2
        exact HF.out _ (hW.alloc _)
    · obtain rfl : j = l.length := by omega
      rw [List.take_length] at hdat hE
      have he : pvE gE n l = 0 := by
        unfold pvE
        rw [if_neg hnil]
        exact atE_all hE
      have hfin : ∀ (W : World) (v : Value), PsOwn W w0.heap.size v ps → Chg [] w0 W → ProveP gE gH n l w0 (.returned (.tuple #[v, .int .i64 0])) W := fun W v hO hW => by
        refine ⟨v, ps, by rw [he], hO, ?_, hW⟩
        unfold pvL
        rw [he, if_pos rfl]
        exact hdat
      have HF := Lib.hid hfin
      have HP := Lib.hid hP
      clear hfin hdat hE he hP HSZ HMK HID huc2 hgH
      go_wp2
      go_ret2
      exact HF.out _ _ (HP.out.mono hcc.size) (hcc.nil_trans hC)
end Go.Proofs.YtpklkefnmoaaaaaGreatDoor
