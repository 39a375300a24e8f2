/- Texts put into one by pack.py: TrE. -/
import Derived.Test.YtpklkefnmoaaaaaGreatDoorTrDp
/- A tree: Root, Old, Size. -/
namespace Go.Proofs.YtpklkefnmoaaaaaGreatDoor
open Go.RowKit
set_option linter.unusedVariables false
set_option linter.unusedSimpArgs false

def bagR (wd : Int) (n : Nat) (l : List (Array Value)) : Array Value := if l.length = popc n then bagA wd n l else zeroHash
def bagE (n : Nat) (l : List (Array Value)) : Int := if l.length = popc n then 0 else 70
theorem bagR_is (wd : Int) (n : Nat) {l : List (Array Value)} (h : ∀ x ∈ l, IsHash x) : IsHash (bagR wd n l) := by
  unfold bagR
  split
  · exact rootA_is wd n (accA_is wd l h)
  · exact zeroHash_is
theorem bag_any (w : World) (wd : Int) (n : Nat) (v : Value) (hs : List (Array Value)) (hv : HsIs w v hs) (hn : n ≤ 4611686018427387904) (hlen : hs.length ≤ 1099511627776) (hk : HIs w) :
    Calls Tryz.prog 120 #[.int .i64 wd, .int .u64 n, v] w (Res w [] (.tuple #[.agg (bagR wd n hs), .int .i64 (bagE n hs)])) := by
  unfold bagR bagE
  by_cases h : hs.length = popc n
  · rw [if_pos h, if_pos h]
    exact bag_calls w wd n v hs hv hn h hk
  · rw [if_neg h, if_neg h]
    exact bag_count w wd n v hs hv hn h hlen
theorem PeaksOf_len (s : SS) (ps : List Nat) : (PeaksOf s ps).length ≤ ps.length := by
  unfold PeaksOf
  split <;> simp
def TS.root (t : TS) : Array Value := bagR t.wd t.size (PeaksOf t.s (peaksN t.size))
def RootA (wr : World) (R : Array Value) (v3 : Value) (wx : World) : Prop := ∃ g, v3 = .pointer (some ⟨g, 0, none⟩) ∧ Chg [] wr wx ∧ rng? wx g 0 32 = some R
set_option maxRecDepth 100000 in
set_option maxHeartbeats 8000000 in
theorem tRoot_calls (w : World) (b : Nat) (t : TS) (ht : TrIs w b t) (hn : t.size ≤ 4611686018427387904) (hk : HIs w) : Calls Tryz.prog 35 #[.pointer (some ⟨b, 0, none⟩)] w (Res w [] (.agg t.root)) := by
  have c1 := blk_cell ht.mem 1 rfl
  have c2 := blk_cell ht.mem 2 rfl
  have hb := blk_lt ht.mem
  have hpk := fun (W : World) (hc : Chg [] w W) => tPeaks_calls W b t (ht.chg0 hc) hn
  have hbg := fun (W W0 : World) (v : Value) (hW : Chg [] w W) (hO : HOwn W W0.heap.size v (PeaksOf t.s (peaksN t.size))) => bag_any W t.wd t.size v _ hO.hs hn (Nat.le_trans (PeaksOf_len _ _) (Nat.le_trans (pkL_len _ 63) (by decide))) (hk.chg0 hW)
  have hRi : IsHash t.root := bagR_is _ _ (fun x hx => by
    unfold PeaksOf at hx
    split at hx
    · obtain ⟨p, _, rfl⟩ := List.mem_map.1 hx
      exact IsHash.getH ht.st p
    · simp at hx)
  have HR : Shut (t.root = bagR t.wd t.size (PeaksOf t.s (peaksN t.size))) := ⟨rfl⟩
  rw [← HR.out] at hbg
  generalize t.root = R at *
  generalize PeaksOf t.s (peaksN t.size) = l at *
  generalize bagE t.size l = E at *
  have hR1 := hRi.1
  have hR2 := hRi.one
  have hm0 := may_alloc_at w w.heap.size 32 zeroHash 36 rfl zeroHash_size
  have hc0 : Chg [] w (w.alloc (.cells zeroHash 36)) := (Chg.refl _ _).alloc _
  have hb0 : b < (w.alloc (.cells zeroHash 36)).heap.size := by rw [World.size_alloc]; omega
  have d1 := (hc0.cell (p := ⟨b, 1, none⟩) hb (by simp)).trans c1
  have d2 := (hc0.cell (p := ⟨b, 2, none⟩) hb (by simp)).trans c2
  have HPK := Lib.hid hpk
  have HBG := Lib.hid hbg
  have hlt0 : w.heap.size < (w.alloc (.cells zeroHash 36)).heap.size := by rw [World.size_alloc]; omega
  clear hpk hbg ht hk hRi HR c1 c2
  go_enter Tryz.func35, Tryz.ntmps35
  go_upto_region 1 with (fail)
  generalize w.alloc (.cells zeroHash 36) = wr at *
  go_cut [3, 4] from 5 to 18 (fun v3 v4 wx => RootA wr R v3 wx)
  case first =>
    go_region_with (first
      | (go_at_call 48; (with_reducible refine (HPK.out _ hc0.drew).mono ?_); rintro e w1 ⟨v, rfl, hO, hc1⟩; have hC1 : Chg [] wr w1 := ((Chg.refl [] wr).drew).nil_trans hc1; have e1 := (hC1.cell (p := ⟨b, 1, none⟩) hb0 (by simp)).trans d1; have e2 := (hC1.cell (p := ⟨b, 2, none⟩) hb0 (by simp)).trans d2; have hb1 : b < w1.heap.size := Nat.lt_of_lt_of_le hb0 hC1.size)
      | (go_at_call 48; (with_reducible refine (HPK.out _ (hc0.alloc _).drew).mono ?_); rintro e w1 ⟨v, rfl, hO, hc1⟩; have hC1 : Chg [] wr w1 := (((Chg.refl [] wr).alloc _).drew).nil_trans hc1; have hm1 : may w1 wr.heap.size 0 32 = true := may_chg hc1 (show may ((wr.alloc (.cells zeroHash 36)).drew) wr.heap.size 0 32 = true from may_alloc_at wr _ 32 zeroHash 36 rfl zeroHash_size) (by omega) (by simp); have e1 := (hC1.cell (p := ⟨b, 1, none⟩) hb0 (by simp)).trans d1; have e2 := (hC1.cell (p := ⟨b, 2, none⟩) hb0 (by simp)).trans d2; have hb1 : b < w1.heap.size := Nat.lt_of_lt_of_le hb0 hC1.size)
      | (go_at_call 120; (with_reducible refine (HBG.out w1 _ v (hc0.nil_trans hC1) hO).mono ?_); rintro e w3 ⟨rfl, hc3⟩; have hC3 := hC1.nil_trans hc3; try have hm3 := may_chg hc3 hm1 (by omega) (by simp))
      | (go_at_call 120; (with_reducible refine (HBG.out (w1.alloc (.cells zeroHash 36)) _ v ((hc0.nil_trans hC1).alloc _) (hO.chg ((Chg.refl [] w1).alloc _) (by simp))).mono ?_); rintro e w3 ⟨rfl, hc3⟩; have hC3 := (hC1.alloc _).nil_trans hc3; have hm3 := may_chg hc3 (may_alloc_at w1 w1.heap.size 32 zeroHash 36 rfl zeroHash_size) (by omega) (by simp)))
    all_goals
      go_wp2
      go_meet
      first
        | exact ⟨_, rfl, hC3.alloc _, rng?_alloc_at _ _ _ _ _ rfl hR1⟩
        | exact ⟨_, rfl, hC3.setRng (.inr (Nat.le_refl _)) _ _, rng?_setRng_same _ _ _ _ _ hm3 hR1⟩
        | exact ⟨_, rfl, hC3.setRng (.inr hC1.size) _ _, rng?_setRng_same _ _ _ _ _ hm3 hR1⟩
  case rest =>
  obtain ⟨g, rfl, hC, hr⟩ := hcut
  have hm2 := may_chg hC hm0 (by omega) (by simp)
  have hgl := World.block_lt_of_cell? _ _ ((rng?_cell hr).2 0 (by omega))
  go_wp2
  refine bodyPost_ret (res_Hash1 rfl _ _ rfl (rng?_setRng_same _ _ _ _ _ hm2 hR1)) rfl ⟨rfl, ?_⟩
  exact (hc0.nil_trans hC).setRng (.inr (Nat.le_refl _)) _ _
end Go.Proofs.YtpklkefnmoaaaaaGreatDoor
