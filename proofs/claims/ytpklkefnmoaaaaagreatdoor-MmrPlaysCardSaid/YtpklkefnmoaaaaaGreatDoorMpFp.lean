/- Texts put into one by pack.py: MpF. -/
import Derived.Test.YtpklkefnmoaaaaaGreatDoorMpEp
import Derived.Test.YtpklkefnmoaaaaaGreatDoorPkG
/- The document's tree: Peaks, Root, Node, Old walked. -/
namespace Go.Proofs.YtpklkefnmoaaaaaGreatDoor
open Go.RowKit
set_option linter.unusedVariables false
set_option linter.unusedSimpArgs false

def PkG (l : List (Array Value)) (w : World) (e : Ending) (w' : World) : Prop := ∃ a cap, e = .returned (.slice a l.length cap) ∧ HOwn w' w.heap.size (.slice a l.length cap) l ∧ Chg [] w w'
theorem bagV_R (wd : Int) (n : Nat) (hs : List (Array Value)) (hn : n ≤ 4611686018427387904) : bagV wd n hs = bagR wd n hs ∧ bagErr n hs = bagE n hs := by
  unfold bagV bagErr bagR bagE
  have h : ¬ 4611686018427387904 < n := by omega
  rw [if_neg h, if_neg h]
  exact ⟨rfl, rfl⟩
theorem r6bag_any (w : World) (wd : Int) (n : Nat) (v : Value) (hs : List (Array Value)) (hv : HsIs w v hs) (hn : n ≤ 4611686018427387904) (hlen : hs.length ≤ 1000000) :
    Calls Tryz.prog 170 #[.int .i64 wd, .int .u64 n, v] w (Res w [] (.tuple #[.agg (bagR wd n hs), .int .i64 (bagE n hs)])) := by
  have := r6bagR_calls w wd n v hs hv (by omega) hlen
  rwa [(bagV_R wd n hs hn).1, (bagV_R wd n hs hn).2] at this
theorem peaks_63 (n : Nat) : (peaksN n).length ≤ 63 := pkL_len n 63
theorem peaks_64 {n : Nat} (hn : n ≤ 4611686018427387904) : ∀ p ∈ peaksN n, p < 18446744073709551616 := fun p hp => by have := peaks_lt n p hp; have := nodes_lt n hn; omega
set_option maxRecDepth 100000 in
theorem r6peaks_calls (w : World) (rb : Nat) (r : RT) (hr : RtIs w rb r) (hn : r.n ≤ 4611686018427387904) : Calls Tryz.prog 85 #[.pointer (some ⟨rb, 0, none⟩)] w (PkG (atL (dE r.d) (dH r.d) (peaksN r.n)) w) := by
  have c1 := blk_cell hr.mem 1 rfl
  have hb := blk_lt hr.mem
  have hpk := r3peaks_calls r.n hn w
  have hat := fun (W : World) (pv : Value) (hc : Chg [] w W) (hU : UOwn W w.heap.size pv (peaksN r.n)) => r6at_calls W rb r (hr.chg0 hc) pv (peaksN r.n) _ hU (peaks_64 hn) (peaks_63 _)
  have HA := Lib.hid hat
  clear hat hr
  go_enter Tryz.func85, Tryz.ntmps85
  go_wp2_with (first
    | (go_at_call 111; refine hpk.mono ?_; rintro e w1 ⟨pv, rfl, hU, hc1⟩)
    | (go_at_call 26; refine (HA.out _ _ hc1 hU).mono ?_; rintro e w2 ⟨a, cap, rfl, hO, hc2⟩))
  go_ret
  exact ⟨a, cap, rfl, ⟨own_mono hO.1 hc1.size, hO.2⟩, hc1.nil_trans hc2⟩
def RT.root (r : RT) : Array Value := bagR r.wd r.n (atL (dE r.d) (dH r.d) (peaksN r.n))
set_option maxRecDepth 100000 in
set_option maxHeartbeats 8000000 in
theorem r6root_calls (w : World) (rb : Nat) (r : RT) (hr : RtIs w rb r) (hn : r.n ≤ 4611686018427387904) : Calls Tryz.prog 89 #[.pointer (some ⟨rb, 0, none⟩)] w (Res w [] (.agg r.root)) := by
  have c0 := blk_cell hr.mem 0 rfl
  have c1 := blk_cell hr.mem 1 rfl
  have hb := blk_lt hr.mem
  have hpk := fun (W : World) (hc : Chg [] w W) => r6peaks_calls W rb r (hr.chg0 hc) hn
  have hbg := fun (W : World) (B : Nat) (v : Value) (hO : HOwn W B v (atL (dE r.d) (dH r.d) (peaksN r.n))) => r6bag_any W r.wd r.n v _ hO.hs hn (Nat.le_trans (atL_len _ _ _) (Nat.le_trans (peaks_63 _) (by decide)))
  have hRi : IsHash r.root := bagR_is _ _ (fun x hx => by
    unfold atL at hx
    split at hx
    · obtain ⟨p, _, rfl⟩ := List.mem_map.1 hx
      exact hr.st.getOk p
    · simp at hx)
  have HR : Shut (r.root = bagR r.wd r.n (atL (dE r.d) (dH r.d) (peaksN r.n))) := ⟨rfl⟩
  rw [← HR.out] at hbg
  generalize r.root = R at *
  generalize atL (dE r.d) (dH r.d) (peaksN r.n) = l at *
  generalize bagE r.n l = E at *
  have hR1 := hRi.1
  have hR2 := hRi.one
  have hm0 := may_alloc_at w w.heap.size 32 zeroHash 36 rfl zeroHash_size
  have hc0 : Chg [] w (w.alloc (.cells zeroHash 36)) := (Chg.refl _ _).alloc _
  have hb0 : rb < (w.alloc (.cells zeroHash 36)).heap.size := by rw [World.size_alloc]; omega
  have d0 := (hc0.cell (p := ⟨rb, 0, none⟩) hb (by simp)).trans c0
  have d1 := (hc0.cell (p := ⟨rb, 1, none⟩) hb (by simp)).trans c1
  have HPK := Lib.hid hpk
  have HBG := Lib.hid hbg
  have hlt0 : w.heap.size < (w.alloc (.cells zeroHash 36)).heap.size := by rw [World.size_alloc]; omega
  clear hpk hbg hr hRi HR c0 c1
  go_enter Tryz.func89, Tryz.ntmps89
  go_upto_region 1 with (fail)
  generalize w.alloc (.cells zeroHash 36) = wr at *
  go_cut [3, 4] from 5 to 18 (fun v3 v4 wx => RootA wr R v3 wx)
  case first =>
    go_region_with (first
      | (go_at_call 85; (with_reducible refine (HPK.out _ hc0.drew).mono ?_); rintro e w1 ⟨a, cap, rfl, hO, hc1⟩; have hC1 : Chg [] wr w1 := ((Chg.refl [] wr).drew).nil_trans hc1; have e0 := (hC1.cell (p := ⟨rb, 0, none⟩) hb0 (by simp)).trans d0; have e1 := (hC1.cell (p := ⟨rb, 1, none⟩) hb0 (by simp)).trans d1; have hb1 : rb < w1.heap.size := Nat.lt_of_lt_of_le hb0 hC1.size)
      | (go_at_call 85; (with_reducible refine (HPK.out _ (hc0.alloc _).drew).mono ?_); rintro e w1 ⟨a, cap, rfl, hO, hc1⟩; have hC1 : Chg [] wr w1 := (((Chg.refl [] wr).alloc _).drew).nil_trans hc1; have hm1 : may w1 wr.heap.size 0 32 = true := may_chg hc1 (show may ((wr.alloc (.cells zeroHash 36)).drew) wr.heap.size 0 32 = true from may_alloc_at wr _ 32 zeroHash 36 rfl zeroHash_size) (by omega) (by simp); have e0 := (hC1.cell (p := ⟨rb, 0, none⟩) hb0 (by simp)).trans d0; have e1 := (hC1.cell (p := ⟨rb, 1, none⟩) hb0 (by simp)).trans d1; have hb1 : rb < w1.heap.size := Nat.lt_of_lt_of_le hb0 hC1.size)
      | (go_at_call 170; (with_reducible refine (HBG.out w1 _ _ hO).mono ?_); rintro e w3 ⟨rfl, hc3⟩; have hC3 := hC1.nil_trans hc3; try have hm3 := may_chg hc3 hm1 (by omega) (by simp))
      | (go_at_call 170; (with_reducible refine (HBG.out (w1.alloc (.cells zeroHash 36)) _ _ (hO.chg ((Chg.refl [] w1).alloc _) (by simp))).mono ?_); rintro e w3 ⟨rfl, hc3⟩; have hC3 := (hC1.alloc _).nil_trans hc3; have hm3 := may_chg hc3 (may_alloc_at w1 w1.heap.size 32 zeroHash 36 rfl zeroHash_size) (by omega) (by simp)))
    all_goals
      go_wp2
      go_meet
      first
        | exact ⟨_, rfl, hC3.alloc _, rng?_alloc_at _ _ _ _ _ rfl hR1⟩
        | exact ⟨_, rfl, hC3.setRng (.inr (Nat.le_refl _)) _ _, rng?_setRng_same _ _ _ _ _ hm3 hR1⟩
        | exact ⟨_, rfl, hC3.setRng (.inr hC1.size) _ _, rng?_setRng_same _ _ _ _ _ hm3 hR1⟩
  case rest =>
  obtain ⟨g, rfl, hC, hr⟩ := hcut
  have hm2 := may_chg hC hm0 (by omega) (by simp)
  have hgl := World.block_lt_of_cell? _ _ ((rng?_cell hr).2 0 (by omega))
  go_wp2
  refine bodyPost_ret (res_Hash1 rfl _ _ rfl (rng?_setRng_same _ _ _ _ _ hm2 hR1)) rfl ⟨rfl, ?_⟩
  exact (hc0.nil_trans hC).setRng (.inr (Nat.le_refl _)) _ _
set_option maxRecDepth 100000 in
theorem r6node_calls (w : World) (rb p : Nat) (r : RT) (hr : RtIs w rb r) : Calls Tryz.prog 90 #[.pointer (some ⟨rb, 0, none⟩), .int .u64 p] w (Res w [] (.tuple #[.agg (dH r.d p), .int .i64 (dE r.d p)])) := by
  have c2 := blk_cell hr.mem 2 rfl
  have hb := blk_lt hr.mem
  have hgi : IsHash (dH r.d p) := hr.st.getOk p
  have hget : Calls Tryz.prog 112 #[.pointer (some ⟨r.c, 0, none⟩), .int .u64 p] (w.alloc (.cells zeroHash 36)) (Res (w.alloc (.cells zeroHash 36)) [] (.tuple #[.agg (dH r.d p), .int .i64 (dE r.d p)])) := rget_calls r.c p r.d _ (hr.st.chg0 ((Chg.refl _ _).alloc _))
  have hs1 := hgi.1
  have hs2 := hgi.one
  have hm0 := may_alloc_at w w.heap.size 32 zeroHash 36 rfl zeroHash_size
  clear hr
  generalize dH r.d p = H at *
  generalize dE r.d p = E at *
  clear hgi
  go_enter Tryz.func90, Tryz.ntmps90
  go_wp2_with (go_at_call 112; refine hget.mono ?_; rintro e w3 ⟨rfl, hc3⟩; have hm3 := may_chg hc3 hm0 (by omega) (by simp))
  refine bodyPost_ret (res_Hash2 rfl _ _ rfl (rng?_setRng_same _ _ _ _ _ hm3 hs1)) rfl ⟨rfl, ?_⟩
  exact (((Chg.refl [] w).alloc _).nil_trans hc3).setRng (.inr (Nat.le_refl _)) _ _
/-! Old: what both answer. -/
def oldV (gE : Nat → Int) (gH : Nat → Array Value) (wd : Int) (n : Nat) : Array Value := if atE gE (peaksN n) = 0 then bagR wd n (atL gE gH (peaksN n)) else zeroHash
def oldE (gE : Nat → Int) (gH : Nat → Array Value) (n : Nat) : Int := if atE gE (peaksN n) = 0 then bagE n (atL gE gH (peaksN n)) else atE gE (peaksN n)
theorem atE_zero {gE : Nat → Int} : ∀ {ps : List Nat}, atE gE ps = 0 → ∀ p ∈ ps, gE p = 0
  | [], _, p, hp => by simp at hp
  | q :: l, h, p, hp => by
    rw [atE] at h
    split at h
    · rename_i h0
      rcases List.mem_cons.1 hp with rfl | hp
      · exact h0
      · exact atE_zero h p hp
    · rename_i h0; exact absurd h h0
theorem OldP.at {w w' : World} {t : TS} {n : Nat} {e : Ending} (h : OldP w t n e w') : Res w [] (.tuple #[.agg (oldV t.s.getE t.s.getH t.wd n), .int .i64 (oldE t.s.getE t.s.getH n)]) e w' := by
  unfold oldV oldE
  rcases h with ⟨h1, h2⟩ | ⟨i, hi, h1, h2, h3⟩
  · rw [atE_all h1, if_pos rfl, if_pos rfl, atL_all h1]
    exact h2
  · rw [atE_first i hi h1 h2, if_neg h2, if_neg h2]
    exact h3
set_option maxRecDepth 100000 in
theorem r6old_far (w : World) (rb : Nat) (r : RT) (n : Nat) (hr : RtIs w rb r) (hn : r.n < n) : Calls Tryz.prog 92 #[.pointer (some ⟨rb, 0, none⟩), .int .u64 n] w (Res w [] (.tuple #[.agg zeroHash, .int .i64 30])) := by
  have c1 := blk_cell hr.mem 1 rfl
  have hb := blk_lt hr.mem
  have hd : decide ((r.n : Int) < (n : Int)) = true := decide_eq_true (by omega)
  clear hr
  go_enter Tryz.func92, Tryz.ntmps92
  go_wp2
  refine bodyPost_ret (res_Hash2 rfl _ _ rfl (rng?_alloc_at _ _ _ _ _ rfl zeroHash_size)) rfl ⟨rfl, (Chg.refl _ _).alloc _⟩
set_option maxRecDepth 100000 in
set_option maxHeartbeats 4000000 in
theorem r6old_calls (w : World) (rb : Nat) (r : RT) (n : Nat) (hr : RtIs w rb r) (hn : n ≤ r.n) (hs : r.n ≤ 4611686018427387904) : Calls Tryz.prog 92 #[.pointer (some ⟨rb, 0, none⟩), .int .u64 n] w (Res w [] (.tuple #[.agg (oldV (dE r.d) (dH r.d) r.wd n), .int .i64 (oldE (dE r.d) (dH r.d) n)])) := by
  have c0 := blk_cell hr.mem 0 rfl
  have c1 := blk_cell hr.mem 1 rfl
  have hb := blk_lt hr.mem
  have hc0 : Chg [] w (w.alloc (.cells zeroHash 36)) := (Chg.refl _ _).alloc _
  have hpk := r3peaks_calls n (by omega) (w.alloc (.cells zeroHash 36))
  have hat := fun (W : World) (B : Nat) (pv : Value) (hc : Chg [] w W) (hU : UOwn W B pv (peaksN n)) => r6at_calls W rb r (hr.chg0 hc) pv (peaksN n) _ hU (peaks_64 (by omega)) (peaks_63 _)
  have hd : decide ((r.n : Int) < (n : Int)) = false := decide_eq_false (by omega)
  have hm0 := may_alloc_at w w.heap.size 32 zeroHash 36 rfl zeroHash_size
  have hbg := fun (W : World) (B : Nat) (v : Value) (hO : HOwn W B v (atL (dE r.d) (dH r.d) (peaksN n))) => r6bag_any W r.wd n v _ hO.hs (by omega) (Nat.le_trans (atL_len _ _ _) (Nat.le_trans (peaks_63 _) (by decide)))
  have hRi : IsHash (bagR r.wd n (atL (dE r.d) (dH r.d) (peaksN n))) := bagR_is _ _ (fun x hx => by
    unfold atL at hx
    split at hx
    · obtain ⟨p, _, rfl⟩ := List.mem_map.1 hx
      exact hr.st.getOk p
    · simp at hx)
  have d0 := fun (W : World) (hc : Chg [] w W) => (hc.cell (p := ⟨rb, 0, none⟩) hb (by simp)).trans c0
  have HD := Lib.hid d0
  have HBG := Lib.hid hbg
  have HA := Lib.hid hat
  clear d0 hbg hat hr c0
  unfold oldV oldE
  obtain ⟨l, hl⟩ : ∃ l, atL (dE r.d) (dH r.d) (peaksN n) = l := ⟨_, rfl⟩
  obtain ⟨E, hE⟩ : ∃ E, atE (dE r.d) (peaksN n) = E := ⟨_, rfl⟩
  have HA2 : Hid (∀ (W : World) (B : Nat) (pv : Value), Chg [] w W → UOwn W B pv (peaksN n) → Calls Tryz.prog 26 #[.pointer (some ⟨rb, 0, none⟩), pv] W fun e w' => ∃ a cap, e = .returned (.tuple #[.slice a l.length cap, .int .i64 E]) ∧ HOwn w' W.heap.size (.slice a l.length cap) l ∧ Chg [] W w') := by
    unfold Hid
    intro W B pv h1 h2
    have := HA.out W B pv h1 h2
    unfold AtG at this
    rwa [hl, hE] at this
  rw [hl] at hRi HBG ⊢
  rw [hE]
  clear HA hl hE
  by_cases hE0 : E = 0
  · subst hE0
    rw [if_pos rfl, if_pos rfl]
    obtain ⟨R, hR⟩ : ∃ R, bagR r.wd n l = R := ⟨_, rfl⟩
    obtain ⟨Eb, hEb⟩ : ∃ Eb, bagE n l = Eb := ⟨_, rfl⟩
    rw [hR] at hRi HBG ⊢
    rw [hEb] at HBG ⊢
    clear hR hEb
    have hR1 := hRi.1
    have hR2 := hRi.one
    go_enter Tryz.func92, Tryz.ntmps92
    go_wp2_with (first
      | (go_at_call 111; refine hpk.mono ?_; rintro e w1 ⟨pv, rfl, hU, hc1⟩)
      | (go_at_call 26; refine (HA2.out _ _ _ (hc0.nil_trans hc1) hU).mono ?_; rintro e w2 ⟨a, cap, rfl, hO, hc2⟩; have hC2 := hc0.nil_trans (hc1.nil_trans hc2); have e0 := HD.out _ hC2; have hb2 := Nat.lt_of_lt_of_le hb hC2.size)
      | (go_at_call 170; refine (HBG.out _ _ _ hO).mono ?_; rintro e w3 ⟨rfl, hc3⟩; have hm3 := may_chg (hc1.nil_trans (hc2.nil_trans hc3)) hm0 (by omega) (by simp)))
    refine bodyPost_ret (res_Hash2 rfl _ _ rfl (rng?_setRng_same _ _ _ _ _ hm3 hR1)) rfl ⟨rfl, ?_⟩
    exact (hC2.nil_trans hc3).setRng (.inr (Nat.le_refl _)) _ _
  · rw [if_neg hE0, if_neg hE0]
    have hne : (E != 0) = true := by rw [bne_iff_ne]; exact hE0
    clear hRi HBG
    go_enter Tryz.func92, Tryz.ntmps92
    go_wp2_with (first
      | (go_at_call 111; refine hpk.mono ?_; rintro e w1 ⟨pv, rfl, hU, hc1⟩)
      | (go_at_call 26; refine (HA2.out _ _ _ (hc0.nil_trans hc1) hU).mono ?_; rintro e w2 ⟨a, cap, rfl, hO, hc2⟩; have hC2 := hc0.nil_trans (hc1.nil_trans hc2); have hm3 := may_chg (hc1.nil_trans hc2) hm0 (by omega) (by simp)))
    refine bodyPost_ret (res_Hash2 rfl _ _ rfl (rng?_setRng_same _ _ _ _ _ hm3 zeroHash_size)) rfl ⟨rfl, ?_⟩
    exact hC2.setRng (.inr (Nat.le_refl _)) _ _
end Go.Proofs.YtpklkefnmoaaaaaGreatDoor
