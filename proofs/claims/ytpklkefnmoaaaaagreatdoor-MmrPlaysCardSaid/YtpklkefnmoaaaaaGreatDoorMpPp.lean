/- Texts put into one by pack.py: MpP. -/
import Derived.BigRegion
import Derived.RegionTactic
import Derived.Deep.DeepCutAuto
import Derived.BigQuiet
import Derived.Deep.LoopGhost
import Derived.Test.YtpklkefnmoaaaaaGreatDoorMpOp
/- MmrPlays' acts: add. -/
namespace Go.Proofs.YtpklkefnmoaaaaaGreatDoor
open Go.RowKit
set_option linter.unusedVariables false
set_option linter.unusedSimpArgs false
attribute [local go_sem ↓] hold_apG
section
variable {F0 : List Nat} {w0 w : World} {b rb m : Nat} {t : TS} {r : RT} {x : AM}
theorem AppP.back {w1 w2 : World} {y : Array Value} {e : Ending} (hc : Chg [] w w1) (h : AppP w1 b t y e w2) : AppP w b t y e w2 := by
  obtain ⟨he, t', q1, q2, q3, q4, q5, q6, q7, q8, q9, q10, q11⟩ := h
  have hs := hc.size
  exact ⟨he, t', q1, q2, q3, q4, q5, q6, q7, q8, q9, hc.of_nil.trans q10 (fun k hk => .inl hk), fun k hk => (q11 k hk).imp id (fun q => by omega)⟩
theorem RApP.back {w1 w2 : World} {y : Array Value} {e : Ending} (hc : Chg [] w w1) (h : RApP w1 rb r y e w2) : RApP w rb r y e w2 := by
  obtain ⟨he, t', q1, q2, q3, q4, q5, q6, q7, q8⟩ := h
  have hs := hc.size
  exact ⟨he, t', q1, q2, q3, q4, q5, q6, hc.of_nil.trans q7 (fun k hk => .inl hk), fun k hk => (q8 k hk).imp id (fun q => by omega)⟩
/-- The act's data, and the mark behind the copy, wherever. -/
def SAd (bx : Nat) (da : Option Addr) (n dc g : Nat) (W : World) : Prop := W.cell? ⟨bx, 33, none⟩ = some (.slice da n dc) ∧ W.cell? ⟨g, n, none⟩ = some (.int .u8 171) ∧ bx < W.heap.size ∧ g < W.heap.size
set_option maxRecDepth 100000 in
set_option maxHeartbeats 8000000 in
theorem actM_add (h : Two [] w0 w b rb t r) (hr : Rel t r m) (hm : m ≤ 1000) (hk : HIs w) (hx : x.ok w) (hx0 : x.ok w0) (hdl : x.dl.length ≤ 100000) (hw : x.what = 2) : Calls Tryz.prog 17 #[.pointer (some ⟨b, 0, none⟩), .pointer (some ⟨rb, 0, none⟩), .agg x.cells] w (ActQ [] w0 b rb (m + 1)) := by
  have hp64 := hx.p
  have hs1 := hx.hash.1
  have hs2 := hx.hash.one
  have hcs := hx.size
  have hco := hx.one
  have hc0 : Chg [] w (w.alloc (.cells x.cells 41)) := (Chg.refl _ _).alloc _
  have hB := AMB.new (w := w) hx.hash
  have hT0 := h.chg0 hc0
  have k0 := hB.c0
  rw [hw] at k0
  have hbl := hB.lt
  have hbT : w.heap.size ∉ t.foot b := fun hk => by have := h.tr.lt _ hk; omega
  have hbR : w.heap.size ∉ r.foot rb := fun hk => by have := h.rf.lt _ hk; omega
  have hlow : ∀ k ∈ t.foot b ++ r.foot rb, w0.heap.size ≤ k := fun k hk => (List.mem_append.1 hk).elim (fun q => by have := h.ownT k q; simpa using this) (fun q => by have := h.ownR k q; simpa using this)
  have hbn : w.heap.size ∉ t.foot b ++ r.foot rb := fun hk => (List.mem_append.1 hk).elim hbT hbR
  have hfeet : ∀ k ∈ t.foot b ++ r.foot rb, k < w.heap.size := fun k hk => (List.mem_append.1 hk).elim (h.tr.lt k) (h.rf.lt k)
  have hsz := hr.size
  have hal := hr.al
  have hfu := hr.full
  have hln := hr.len
  have hwc := h.chg
  have hdb := hx.dl.chg0 hc0
  have hd0 := hx0.dl
  have hT0h := hT0.here
  have HB := Lib.hid hB
  have HT0 := Lib.hid hT0
  have HTH := Lib.hid hT0h
  have HREL := Lib.hid hr
  have HK := Lib.hid (hk.chg0 hc0)
  have k33 := hB.c33
  clear hB hT0 hT0h hx hx0 h hw hk
  generalize hbx : w.alloc (.cells x.cells 41) = wb at *
  have HX := Lib.hid hbx
  go_enter Tryz.func17, Tryz.ntmps17
  go_upto_region 5 with (fail)
  go_cut [7] from 38 to 47 (fun gv wx => ∃ g cap, gv = .slice (some ⟨g, 0, none⟩) x.dl.length cap ∧ GbIs wb x.dl g cap wx)
  case first =>
    have e33 : ∀ W, Chg [] wb W → W.cell? ⟨w.heap.size, 33, none⟩ = some (.slice x.da x.dl.length x.dc) ∧ w.heap.size < W.heap.size := fun W hc => ⟨(HB.out.chg hc (by simp)).c33, Nat.lt_of_lt_of_le hbl hc.size⟩
    obtain ⟨a2, p2, w2, g, p4, w4, r1, r2, r3, r4⟩ := gib_a wb.drew (cap := x.dc) (hdb.chg0 ((Chg.refl [] _).drew)) (by omega)
    obtain ⟨b2, t2, v2, gb, t4, v4, s1, s2, s3, s4⟩ := gib_b wb.drew ((wb.drew.alloc (.cells #[] 5)).alloc (.cells #[.int .u8 171] 5)) (g1 := wb.heap.size) (g3 := wb.heap.size + 1) (((Chg.refl _ _).alloc _).alloc _)
      (own_chg (own_new wb.drew wb.heap.size 5 1 0 #[] (Nat.le_refl _) rfl (Nat.zero_le _)) ((Chg.refl [] _).alloc _) (by simp)) (by have := blk_new (wb.drew.alloc (.cells #[] 5)) (.cells #[.int .u8 171] 5); rwa [World.size_alloc] at this) (by omega) (cap := x.dc) (dl := x.dl) (hdb.chg0 ((((Chg.refl [] _).drew).alloc _).alloc _)) (by omega)
    obtain ⟨c2, y2, z2, gc, y4, z4, u1, u2, u3, u4⟩ := gib_b wb.drew ((wb.drew.alloc (.cells #[.int .u8 171] 5)).alloc (.cells #[] 5)) (g1 := wb.heap.size + 1) (g3 := wb.heap.size) (((Chg.refl _ _).alloc _).alloc _)
      (by have := own_new (wb.drew.alloc (.cells #[.int .u8 171] 5)) wb.heap.size 5 1 0 #[] (by simp) rfl (Nat.zero_le _); rwa [World.size_alloc] at this) (blk_alloc (blk_new wb.drew (.cells #[.int .u8 171] 5)) _) (by omega) (cap := x.dc) (dl := x.dl) (hdb.chg0 ((((Chg.refl [] _).drew).alloc _).alloc _)) (by omega)
    have hdr : Chg [] wb wb.drew := (Chg.refl _ _).drew
    obtain ⟨f1, f2⟩ := e33 _ (hdr.nil_trans r2)
    obtain ⟨f3, f4⟩ := e33 _ (hdr.nil_trans r4.chg)
    obtain ⟨f5, f6⟩ := e33 _ (hdr.nil_trans s2)
    obtain ⟨f7, f8⟩ := e33 _ (hdr.nil_trans s4.chg)
    obtain ⟨f9, f10⟩ := e33 _ (hdr.nil_trans u2)
    obtain ⟨f11, f12⟩ := e33 _ (hdr.nil_trans u4.chg)
    have m1 := r4.cap
    have m2 := s4.cap
    have m3 := u4.cap
    have R4 := Lib.hid r4
    have S4 := Lib.hid s4
    have U4 := Lib.hid u4
    have r1' : (apG #[37, 37] 37 #[.slice (some ⟨wb.heap.size, 0, none⟩) 0 0, .slice x.da x.dl.length x.dc]).run Tryz.prog ((wb.alloc (.cells #[] 5)).drew) = .ok (.slice a2 x.dl.length p2) w2 := r1
    have s1' : (apG #[37, 37] 37 #[.slice (some ⟨wb.heap.size, 0, none⟩) 0 0, .slice x.da x.dl.length x.dc]).run Tryz.prog (((wb.alloc (.cells #[] 5)).alloc (.cells #[.int .u8 171] 5)).drew) = .ok (.slice b2 x.dl.length t2) v2 := s1
    have u1' : (apG #[37, 37] 37 #[.slice (some ⟨wb.heap.size + 1, 0, none⟩) 0 0, .slice x.da x.dl.length x.dc]).run Tryz.prog (((wb.alloc (.cells #[.int .u8 171] 5)).alloc (.cells #[] 5)).drew) = .ok (.slice c2 x.dl.length y2) z2 := u1
    clear r1 s1 u1 r4 s4 u4 r2 s2 u2 e33 HX hbx hdb hd0 hlow hfeet
    generalize x.dl.length = n at *
    go_region
    · go_wp2
      go_meet
      exact ⟨_, _, rfl, R4.out.undrew⟩
    · go_wp2
      go_meet
      exact ⟨_, _, rfl, S4.out.undrew⟩
    · go_wp2
      go_meet
      exact ⟨_, _, rfl, U4.out.undrew⟩
  case rest =>
    obtain ⟨g, cap, rfl, hG⟩ := hcut
    have hdr : Chg [] wc wc.drew := (Chg.refl _ _).drew
    have hCw : Chg [] wb wc.drew := hG.chg.nil_trans hdr
    have hgF : g ∉ t.foot b ++ r.foot rb := fun hk => by have := hfeet g hk; have := hG.lo; omega
    have hgl := hG.lt
    have hglo := hG.lo
    have hgw : w.heap.size < g := by omega
    have hb8 := hG.by8
    have hgcap := hG.cap
    have hwx : t.wd = r.wd := hr.wd.symm
    have q1 : Calls Tryz.prog 83 #[.pointer (some ⟨b, 0, none⟩), .slice (some ⟨g, 0, none⟩) x.dl.length cap] wc.drew (AppP wc.drew b t (leafA t.wd x.dl)) := (tadd_calls wc.drew b t _ x.dl (HT0.out.tr.chg0 hCw) (hG.bs.chg0 hdr) (by omega) (HK.out.chg0 hCw) (by omega) hfu (by omega)).mono (fun e w' ⟨w1, h1, h2⟩ => h2.back h1)
    have hout : ∀ W', Chg (t.foot b ++ r.foot rb) wc.drew W' → Chg [] w0 W' := fun W' hW' => ((hwc.nil_trans hc0).nil_trans hCw).trans hW' (fun k hk => .inr (hlow k hk))
    have hsad : ∀ W', Chg (t.foot b ++ r.foot rb) wc.drew W' → SAd w.heap.size x.da x.dl.length x.dc g W' := fun W' hW' => by
      have hb2 := (HB.out.chg hCw (by simp)).chg hW' hbn
      refine ⟨hb2.c33, ?_, hb2.lt, Nat.lt_of_lt_of_le hgl (Nat.le_trans hdr.size hW'.size)⟩
      rw [hW'.cell (p := ⟨g, x.dl.length, none⟩) (Nat.lt_of_lt_of_le hgl hdr.size) hgF]
      exact (hdr.cell (p := ⟨g, x.dl.length, none⟩) hgl (by simp)).trans hG.last
    have hcel : ∀ W', Chg (t.foot b ++ r.foot rb) wc.drew W' → ∀ j (hj : j < x.dl.length), W'.cell? ⟨g, j, none⟩ = some (.int .u8 (x.dl[j] : Nat)) ∧ W'.frozen? ⟨g, j, none⟩ = false := fun W' hW' j hj => by
      rw [hW'.cell (p := ⟨g, j, none⟩) (Nat.lt_of_lt_of_le hgl hdr.size) hgF, hW'.frozen (p := ⟨g, j, none⟩) (Nat.lt_of_lt_of_le hgl hdr.size) hgF]
      exact hG.cell hj
    have hTd : Two (t.foot b ++ r.foot rb) wc.drew wc.drew b rb t r := (HT0.out.chg0 hCw).here
    have q2 : ∀ e w1, AppP wc.drew b t (leafA t.wd x.dl) e w1 → Chg (t.foot b ++ r.foot rb) wc.drew w1 ∧ Calls Tryz.prog 84 #[.pointer (some ⟨rb, 0, none⟩), .slice x.da x.dl.length x.dc] w1 (RApP w1 rb r (leafA t.wd x.dl)) := fun e w1 hp => by
      obtain ⟨t', hT', hC'⟩ := hp.two hTd
      refine ⟨hT'.chg, ?_⟩
      rw [hwx]
      exact (r6add_calls w1 rb r _ x.dl hT'.rf (hd0.chg0 (hout _ hT'.chg)) (by omega) (by rw [hr.n]; omega) (by rw [hr.n, hln, hfu])).mono (fun e w' ⟨w1, h1, h2⟩ => h2.back h1)
    have q3 : ∀ e w1 e2 w2, AppP wc.drew b t (leafA t.wd x.dl) e w1 → RApP w1 rb r (leafA t.wd x.dl) e2 w2 → ∃ t' r', Two (t.foot b ++ r.foot rb) wc.drew w2 b rb t' r' ∧ Rel t' r' (m + 1) := fun e w1 e2 w2 hp hq => by
      obtain ⟨t', r', h1, h2, _⟩ := hTd.app hr hp (fun _ _ => hq) (by have := t1_le t.size (by omega); omega)
      exact ⟨t', r', h1, h2⟩
    have hen2 : ((t.size : Int) != (r.n : Int)) = false := by rw [bne_eq_false_iff_eq, hr.n]
    have hn1 := hr.n
    have s0 := hsad _ (Chg.refl _ _)
    have Q1 := Lib.hid q1
    have Q2 := Lib.hid q2
    have Q3 := Lib.hid q3
    have HSAD := Lib.hid hsad
    have HCEL := Lib.hid hcel
    have HOUT := Lib.hid hout
    have HD0 := Lib.hid hd0
    have HTD := Lib.hid hTd
    have hdat : ∀ W, Chg [] w0 W → ∀ j (hj : j < x.dl.length), ∃ db o, x.da = some ⟨db, o, none⟩ ∧ db < w0.heap.size ∧ W.cell? ⟨db, o + j, none⟩ = some (.int .u8 (x.dl[j] : Nat)) := fun W hW j hj => by
      obtain ⟨_, a, c, hv, _, _, hr2⟩ := hd0
      injection hv with e1
      rcases hr2 with hr2 | ⟨db, o, ha, hdb, hcl⟩
      · rw [hr2] at hj; simp at hj
      · refine ⟨db, o, by rw [e1, ha], hdb, ?_⟩
        rw [hW.cell (p := ⟨db, o + j, none⟩) hdb (by simp)]
        exact hcl j hj
    have HDAT := Lib.hid hdat
    have hgs : w0.heap.size ≤ g := by have := hwc.size; omega
    clear q1 q2 q3 hsad hcel hout hd0 hdb hTd hdat hG hr hfu hln hfeet hal
    generalize leafA t.wd x.dl = LF at *
    obtain ⟨dl, hdle⟩ : ∃ dl, x.dl = dl := ⟨_, rfl⟩
    generalize x.dl = dl at *
    obtain ⟨n, hn⟩ : ∃ n, dl.length = n := ⟨_, rfl⟩
    have HN := Lib.hid hn
    rw [hn] at Q1 Q2 HSAD s0 hgcap hdl k33 ⊢
    clear hn
    have n1 : (n : Int) + 1 ≤ (cap : Int) := by omega
    have n2 : (0 : Int) ≤ (n : Int) + 1 := by omega
    have n3 : (n : Int) < (n : Int) + 1 := by omega
    have n4 : ((n : Int) + 1).toNat = n + 1 := by omega
    have n5 : (0 : Int) ≤ (n : Int) := by omega
    have n6 : IntKind.i64.wrap ((n : Int) + 1) = (n : Int) + 1 := IntWalk.i64_in _ (by omega)
    go_upto_region 6 with (fail)
    clear k0 k33 hbx hcs hco
    refine wp_region_noPanic ?_
    refine wp_region_held_drew (S := (fun W => SAd w.heap.size x.da n x.dc g W)) (by kernel_rfl) (by exact s0) (fun hHeld => ?_)
    have hHeldX := hHeld
    refine wpAnyH_take (i := 0) (v := ?_) rfl (by kernel_rfl) (by kernel_rfl) (by kernel_rfl) (fun _ _ _ h => h) (Or.inl ⟨by rfl, ?_⟩) (by first | assumption | exact hHeldX) ?_
    rotate_left
    · intro w hSw
      (try dsimp only at hSw)
      go_simp
      try with_reducible rfl
    try simp only [List.getElem_toArray, List.getElem_cons_zero, List.getElem_cons_succ, Act.put, List.setIfInBounds_toArray, List.set_cons_zero, List.set_cons_succ]
    refine wpAnyH_take (i := 1) (v := ?_) rfl (by kernel_rfl) (by kernel_rfl) (by kernel_rfl) (fun _ _ _ h => h) (Or.inl ⟨by rfl, ?_⟩) (by first | assumption | exact hHeldX) ?_
    rotate_left
    · intro w hSw
      (try dsimp only at hSw)
      go_simp
      try with_reducible rfl
    try simp only [List.getElem_toArray, List.getElem_cons_zero, List.getElem_cons_succ, Act.put, List.setIfInBounds_toArray, List.set_cons_zero, List.set_cons_succ]
    refine wpAnyH_take (i := 3) (v := ?_) rfl (by kernel_rfl) (by kernel_rfl) (by kernel_rfl) (fun _ _ _ h => h) (Or.inl ⟨by rfl, ?_⟩) (by first | assumption | exact hHeldX) ?_
    rotate_left
    · intro w hSw
      (try dsimp only at hSw)
      go_simp
      try with_reducible rfl
    try simp only [List.getElem_toArray, List.getElem_cons_zero, List.getElem_cons_succ, Act.put, List.setIfInBounds_toArray, List.set_cons_zero, List.set_cons_succ]
    refine wpAnyH_take (i := 4) (v := ?_) rfl (by kernel_rfl) (by kernel_rfl) (by kernel_rfl) (fun _ _ _ h => h) (Or.inl ⟨by rfl, ?_⟩) (by first | assumption | exact hHeldX) ?_
    rotate_left
    · intro w hSw
      (try dsimp only at hSw)
      go_simp
      try with_reducible rfl
    try simp only [List.getElem_toArray, List.getElem_cons_zero, List.getElem_cons_succ, Act.put, List.setIfInBounds_toArray, List.set_cons_zero, List.set_cons_succ]
    refine wpAnyH_take (i := 5) (v := ?_) rfl (by kernel_rfl) (by kernel_rfl) (by kernel_rfl) (fun _ _ _ h => h) (Or.inl ⟨by rfl, ?_⟩) (by first | assumption | exact hHeldX) ?_
    rotate_left
    · intro w hSw
      (try dsimp only at hSw)
      obtain ⟨hSw1, hSw2, hSw3, hSw4⟩ := hSw
      go_simp
      try with_reducible rfl
    try simp only [List.getElem_toArray, List.getElem_cons_zero, List.getElem_cons_succ, Act.put, List.setIfInBounds_toArray, List.set_cons_zero, List.set_cons_succ]
    refine wpAnyH_ready (rs := [2]) (by kernel_rfl) (by simp) ?_
    refine AllReadyH.cons rfl (fun K hK => ?_) ?_
    go_simp
    go_at_call 83; refine Q1.out.mono ?_; intro e w2 hp; have he := hp.1; subst he
    go_wp2_with fail
    refine hK.out _ _ (by exact HSAD.out _ (Q2.out _ _ hp).1) (fun hHeld => ?_)
    clear hK K
    try simp only [List.getElem_toArray, List.getElem_cons_zero, List.getElem_cons_succ, Act.put, List.setIfInBounds_toArray, List.set_cons_zero, List.set_cons_succ]
    rotate_left
    exact AllReadyH.nil
    refine wpAnyH_ready (rs := [6]) (by kernel_rfl) (by simp) ?_
    refine AllReadyH.cons rfl (fun K hK => ?_) ?_
    go_simp
    go_at_call 84; refine (Q2.out _ _ hp).2.mono ?_; intro e2 w3 hq; have he2 := hq.1; subst he2
    go_wp2_with fail
    refine hK.out _ _ (by exact (by obtain ⟨t', r', h1, _⟩ := Q3.out _ _ _ _ hp hq; exact HSAD.out _ h1.chg)) (fun hHeld => ?_)
    clear hK K
    try simp only [List.getElem_toArray, List.getElem_cons_zero, List.getElem_cons_succ, Act.put, List.setIfInBounds_toArray, List.set_cons_zero, List.set_cons_succ]
    rotate_left
    exact AllReadyH.nil
    obtain ⟨t', r', hT3, hRel3⟩ := Q3.out _ _ _ _ hp hq
    refine wpAnyH_take (i := 7) (v := ?_) rfl (by kernel_rfl) (by kernel_rfl) (by kernel_rfl) (fun _ _ _ h => h) (Or.inl ⟨by rfl, ?_⟩) (by first | assumption | exact hHeldX) ?_
    rotate_left
    · intro w hSw
      (try dsimp only at hSw)
      go_simp
      try with_reducible rfl
    try simp only [List.getElem_toArray, List.getElem_cons_zero, List.getElem_cons_succ, Act.put, List.setIfInBounds_toArray, List.set_cons_zero, List.set_cons_succ]
    refine wpAnyH_take (i := 8) (v := ?_) rfl (by kernel_rfl) (by kernel_rfl) (by kernel_rfl) (fun _ _ _ h => h) (Or.inl ⟨by rfl, ?_⟩) (by first | assumption | exact hHeldX) ?_
    rotate_left
    · intro w hSw
      (try dsimp only at hSw)
      go_simp
      try with_reducible rfl
    try simp only [List.getElem_toArray, List.getElem_cons_zero, List.getElem_cons_succ, Act.put, List.setIfInBounds_toArray, List.set_cons_zero, List.set_cons_succ]
    refine wpAnyH_take (i := 9) (v := ?_) rfl (by kernel_rfl) (by kernel_rfl) (by kernel_rfl) (fun _ _ _ h => h) (Or.inl ⟨by rfl, ?_⟩) (by first | assumption | exact hHeldX) ?_
    rotate_left
    · intro w hSw
      (try dsimp only at hSw)
      go_simp
      try with_reducible rfl
    try simp only [List.getElem_toArray, List.getElem_cons_zero, List.getElem_cons_succ, Act.put, List.setIfInBounds_toArray, List.set_cons_zero, List.set_cons_succ]
    refine wpAnyH_take (i := 10) (v := ?_) rfl (by kernel_rfl) (by kernel_rfl) (by kernel_rfl) (fun _ _ _ h => h) (Or.inl ⟨by rfl, ?_⟩) (by first | assumption | exact hHeldX) ?_
    rotate_left
    · intro w hSw
      (try dsimp only at hSw)
      go_simp
      try with_reducible rfl
    try simp only [List.getElem_toArray, List.getElem_cons_zero, List.getElem_cons_succ, Act.put, List.setIfInBounds_toArray, List.set_cons_zero, List.set_cons_succ]
    refine wpAnyH_take (i := 11) (v := ?_) rfl (by kernel_rfl) (by kernel_rfl) (by kernel_rfl) (fun _ _ _ h => h) (Or.inl ⟨by rfl, ?_⟩) (by first | assumption | exact hHeldX) ?_
    rotate_left
    · intro w hSw
      (try dsimp only at hSw)
      go_simp
      try with_reducible rfl
    try simp only [List.getElem_toArray, List.getElem_cons_zero, List.getElem_cons_succ, Act.put, List.setIfInBounds_toArray, List.set_cons_zero, List.set_cons_succ]
    refine wpAnyH_take (i := 12) (v := ?_) rfl (by kernel_rfl) (by kernel_rfl) (by kernel_rfl) (fun _ _ _ h => h) (Or.inl ⟨by rfl, ?_⟩) (by first | assumption | exact hHeldX) ?_
    rotate_left
    · intro w hSw
      (try dsimp only at hSw)
      go_simp
      try with_reducible rfl
    try simp only [List.getElem_toArray, List.getElem_cons_zero, List.getElem_cons_succ, Act.put, List.setIfInBounds_toArray, List.set_cons_zero, List.set_cons_succ]
    refine wpAnyH_take (i := 13) (v := ?_) rfl (by kernel_rfl) (by kernel_rfl) (by kernel_rfl) (fun _ _ _ h => h) (Or.inl ⟨by rfl, ?_⟩) (by first | assumption | exact hHeldX) ?_
    rotate_left
    · intro w hSw
      (try dsimp only at hSw)
      go_simp
      try with_reducible rfl
    try simp only [List.getElem_toArray, List.getElem_cons_zero, List.getElem_cons_succ, Act.put, List.setIfInBounds_toArray, List.set_cons_zero, List.set_cons_succ]
    refine wpAnyH_take (i := 14) (v := ?_) rfl (by kernel_rfl) (by kernel_rfl) (by kernel_rfl) (fun _ _ _ h => h) (Or.inl ⟨by rfl, ?_⟩) (by first | assumption | exact hHeldX) ?_
    rotate_left
    · intro w hSw
      (try dsimp only at hSw)
      go_simp
      try with_reducible rfl
    try simp only [List.getElem_toArray, List.getElem_cons_zero, List.getElem_cons_succ, Act.put, List.setIfInBounds_toArray, List.set_cons_zero, List.set_cons_succ]
    refine wpAnyH_take (i := 15) (v := ?_) rfl (by kernel_rfl) (by kernel_rfl) (by kernel_rfl) (fun _ _ _ h => h) (Or.inl ⟨by rfl, ?_⟩) (by first | assumption | exact hHeldX) ?_
    rotate_left
    · intro w hSw
      (try dsimp only at hSw)
      go_simp
      try with_reducible rfl
    try simp only [List.getElem_toArray, List.getElem_cons_zero, List.getElem_cons_succ, Act.put, List.setIfInBounds_toArray, List.set_cons_zero, List.set_cons_succ]
    refine wpAnyH_take (i := 16) (v := ?_) rfl (by kernel_rfl) (by kernel_rfl) (by kernel_rfl) (fun _ _ _ h => h) (Or.inl ⟨by rfl, ?_⟩) (by first | assumption | exact hHeldX) ?_
    rotate_left
    · intro w hSw
      (try dsimp only at hSw)
      go_simp
      try with_reducible rfl
    try simp only [List.getElem_toArray, List.getElem_cons_zero, List.getElem_cons_succ, Act.put, List.setIfInBounds_toArray, List.set_cons_zero, List.set_cons_succ]
    refine wpAnyH_take (i := 17) (v := ?_) rfl (by kernel_rfl) (by kernel_rfl) (by kernel_rfl) (fun _ _ _ h => h) (Or.inl ⟨by rfl, ?_⟩) (by first | assumption | exact hHeldX) ?_
    rotate_left
    · intro w hSw
      (try dsimp only at hSw)
      obtain ⟨hSw1, hSw2, hSw3, hSw4⟩ := hSw
      go_simp
      try with_reducible rfl
    try simp only [List.getElem_toArray, List.getElem_cons_zero, List.getElem_cons_succ, Act.put, List.setIfInBounds_toArray, List.set_cons_zero, List.set_cons_succ]
    refine wpAnyH_take (i := 18) (v := ?_) rfl (by kernel_rfl) (by kernel_rfl) (by kernel_rfl) (fun _ _ _ h => h) (Or.inl ⟨by rfl, ?_⟩) (by first | assumption | exact hHeldX) ?_
    rotate_left
    · intro w hSw
      (try dsimp only at hSw)
      go_simp
      try with_reducible rfl
    try simp only [List.getElem_toArray, List.getElem_cons_zero, List.getElem_cons_succ, Act.put, List.setIfInBounds_toArray, List.set_cons_zero, List.set_cons_succ]
    refine wpAnyH_take (i := 19) (v := ?_) rfl (by kernel_rfl) (by kernel_rfl) (by kernel_rfl) (fun _ _ _ h => h) (Or.inl ⟨by rfl, ?_⟩) (by first | assumption | exact hHeldX) ?_
    rotate_left
    · intro w hSw
      (try dsimp only at hSw)
      go_simp
      try with_reducible rfl
    try simp only [List.getElem_toArray, List.getElem_cons_zero, List.getElem_cons_succ, Act.put, List.setIfInBounds_toArray, List.set_cons_zero, List.set_cons_succ]
    refine wpAnyH_done (by kernel_rfl) ?_ _
    refine NoPanic.normal ?_
    go_wp2_with fail
    have hcells : ∀ j (hj : j < dl.length), w3.cell? ⟨g, j, none⟩ = some (.int .u8 (dl[j] : Nat)) ∧ w3.frozen? ⟨g, j, none⟩ = false := HCEL.out _ hT3.chg
    have ho3 := HOUT.out _ hT3.chg
    obtain ⟨z1, z2, z3, z4⟩ := hHeld
    have hfin : ∀ W, Chg [g] w3 W → ActQ [] w0 b rb (m + 1) (.returned (.bool true)) W := fun W hW => by
      have hgt : ∀ k ∈ [g], k ∉ t'.foot b := fun k hk hk2 => by
        simp at hk; subst hk
        rcases hT3.ownT k hk2 with q | q
        · exact hgF q
        · have := hdr.size; omega
      have hgr : ∀ k ∈ [g], k ∉ r'.foot rb := fun k hk hk2 => by
        simp at hk; subst hk
        rcases hT3.ownR k hk2 with q | q
        · exact hgF q
        · have := hdr.size; omega
      have hTw : Two [] w0 wc.drew b rb t r := HT0.out.chg0 hCw
      have hT6 := hTw.comp hT3 (fun k hk => .inr (hlow k hk))
      exact ⟨rfl, t', r', hT6.far hW hgt hgr (fun k hk => .inr (by simp at hk; omega)), hRel3⟩
    have HF := Lib.hid hfin
    clear hfin hT3 hRel3 hp hq HSAD Q1 Q2 Q3 HCEL n1 n4 n6
    go_loopg [8] n (fun mm i wr => ∃ k, k ≤ n ∧ mm = n - k ∧ i = .int .i64 (k : Nat) ∧ Chg [g] w3 wr ∧ ∀ j, k ≤ j → (hj : j < dl.length) → wr.cell? ⟨g, j, none⟩ = some (.int .u8 (dl[j] : Nat)) ∧ wr.frozen? ⟨g, j, none⟩ = false)
    case atStart => exact ⟨0, Nat.zero_le _, by omega, rfl, Chg.refl _ _, fun j _ hj => hcells j hj⟩
    case round =>
      clear hcells
      obtain ⟨k, hk, hgk, rfl, hcr, hcl⟩ := hrel
      by_cases hlt : k < n
      · have hlt2 : k < dl.length := by rw [HN.out]; exact hlt
        obtain ⟨p1, p2⟩ := hcl k (Nat.le_refl _) hlt2
        have hor : Chg [] w0 wr := ho3.trans hcr (fun y hy => .inr (by simp at hy; omega))
        obtain ⟨db, o, hda, hdb, p3⟩ := HDAT.out wr hor k hlt2
        have p4 := World.block_lt_of_cell? _ _ p3
        have p5 := (hcr.cell (p := ⟨w.heap.size, 33, none⟩) z3 (by simp; omega)).trans z1
        have p6 : w.heap.size < wr.heap.size := Nat.lt_of_lt_of_le z3 hcr.size
        have p7 : g < wr.heap.size := Nat.lt_of_lt_of_le z4 hcr.size
        rw [hda] at p5
        have hnext : ∀ nq v, Chg [g] w3 ((wr.drewN nq).setCell ⟨g, k, none⟩ v) ∧ ∀ j, k + 1 ≤ j → (hj : j < dl.length) → ((wr.drewN nq).setCell ⟨g, k, none⟩ v).cell? ⟨g, j, none⟩ = some (.int .u8 (dl[j] : Nat)) ∧ ((wr.drewN nq).setCell ⟨g, k, none⟩ v).frozen? ⟨g, j, none⟩ = false := fun nq v => by
          refine ⟨(hcr.drewN nq).setCell (.inl (by simp)) _, fun j h1 hj => ?_⟩
          obtain ⟨a1, a2⟩ := hcl j (by omega) hj
          rw [World.cell?_setCell_other _ _ _ _ (by intro e; injection e with e1 e2; omega), World.frozen?_setCell]
          exact ⟨a1, a2⟩
        have HNX := Lib.hid hnext
        have hyv := hb8 _ (List.getElem_mem hlt2)
        have HG := Lib.hid hgk
        clear hnext hcl hgk hor hda
        generalize dl[k] = y at *
        have e2 : ((y : Int) != (y : Int)) = false := by simp
        go_wp2
        go_quiet (fail)
        go_wp2
        go_roundg (n - (k + 1))
        case measure => rw [HG.out]; omega
        case rel => exact ⟨k + 1, by omega, rfl, by go_num, (HNX.out _ _).1, (HNX.out _ _).2⟩
      · obtain rfl : k = n := by omega
        have hf := HF.out _ hcr
        have HFF := Lib.hid hf
        have dn : decide ((k : Int) < (k : Int)) = false := by simp
        clear hf hcl hgk hlt
        go_wp2
        go_ret
        exact HFF.out
end
end Go.Proofs.YtpklkefnmoaaaaaGreatDoor
