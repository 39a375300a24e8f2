/- Texts put into one by pack.py: HaH. -/
import Derived.Deep.DrawnRows
import Derived.BigRegion
import Derived.Deep.LoopGhost
import Derived.Test.YtpklkefnmoaaaaaGreatDoorPkC
/- The hash: Write. -/
namespace Go.Proofs.YtpklkefnmoaaaaaGreatDoor
open Go.RowKit
set_option linter.unusedVariables false
set_option linter.unusedSimpArgs false

def WriteP (w : World) (b : Nat) (wd : Int) (h : HS) (e : Ending) (w' : World) : Prop := e = .returned (.tuple #[]) ∧ HaIs w' b wd h ∧ Chg [b] w w'
def CompP (w : World) (wd : Int) (st rest : List Nat) (e : Ending) (w' : World) : Prop := e = .returned (.agg (hV (compressN wd st rest))) ∧ Chg [] w w'
set_option maxRecDepth 100000 in
set_option maxHeartbeats 4000000 in
theorem write_calls (w : World) (b : Nat) (wd : Int) (h : HS) (v : Value) (l : List Nat) (hh : HaIs w b wd h) (hl : BsIs w v l) (ho : OffB v b) (hk : HIs w) (hkb : b ≠ 2 ∧ b ≠ 0) (hn : h.n + l.length < 2305843009213693952) :
    Calls Tryz.prog 208 #[.pointer (some ⟨b, 0, none⟩), v] w (WriteP w b wd (absorbs wd h l)) := by
  go_enter Tryz.func208, Tryz.ntmps208
  go_wp2
  go_loopg [1] l.length (fun g vv wx => ∃ l1 l2 : List Nat, l = l1 ++ l2 ∧ g = l2.length ∧ BsIs wx vv l2 ∧ OffB vv b ∧ HaIs wx b wd (absorbs wd h l1) ∧ Chg [b] w wx)
  case atStart => exact ⟨[], l, rfl, rfl, hl, ho, hh, Chg.refl _ _⟩
  case round =>
    clear hl ho hh
    obtain ⟨l1, l2, hll, hg, hl, ho, hh, hcw⟩ := hrel
    by_cases h0 : l2 = []
    · subst h0
      obtain ⟨_, a, cap, rfl, _, _, hrest⟩ := hl
      have hh2 : HaIs wr b wd (absorbs wd h l) := by rw [hll, List.append_nil]; exact hh
      have HH := Lib.hid hh2
      clear hh2 hh hll hg hrest ho hk
      go_wp2
      go_end0
      exact ⟨rfl, HH.out, hcw⟩
    · obtain ⟨a, cap, hv⟩ : ∃ a cap, _ = Value.slice a l2.length cap := by obtain ⟨_, a, cap, hv, _⟩ := hl; exact ⟨a, cap, hv⟩
      subst hv
      have hnn := absorbs_n wd l1 h
      have hk2 := hk.chg hcw (by simpa using hkb.1.symm) (by simpa using hkb.2.symm)
      have hlen : l.length = l1.length + l2.length := by rw [hll, List.length_append]
      have hpos : 0 < l2.length := List.length_pos_iff.2 h0
      have habs := absorbs_app wd h l1
      generalize hH : absorbs wd h l1 = H at *
      obtain ⟨m, hm⟩ : ∃ m, m = min l2.length (64 - H.n % 64) := ⟨_, rfl⟩
      have hml : (l2.take m).length = m := by rw [List.length_take]; omega
      have hchunk := absorbs_chunk wd (l2.take m) H hh.ok.rest.1 (by intro e; rw [e] at hml; simp at hml; omega) (by rw [hml]; omega)
      rw [hml] at hchunk
      obtain ⟨wy, hcp, hhy, hcy⟩ := hh.copy hl h0 (H.n % 64) (Nat.mod_lt _ (by decide)) m hm 3
      have hly := hl.chg hcy (by simpa using ho)
      obtain ⟨v', hsl, hdl, hdo⟩ := hly.drop m (by omega)
      have hhz := hhy.setN (H.n + m)
      have hcz : Chg [b] wr (wy.setCell ⟨b, 97, none⟩ (.int .u64 (H.n + m : Nat))) := hcy.setCell (by simp) _
      have hdz := hdl.chg ((Chg.refl [b] wy).setCell (p := ⟨b, 97, none⟩) (by simp) (.int .u64 (H.n + m : Nat))) (by simpa using hdo b ho)
      have hkz := hk2.chg hcz (by simpa using hkb.1.symm) (by simpa using hkb.2.symm)
      have c97 := hh.cell97
      have d97 := hhy.cell97
      have f97 := blk_frozen hhy.mem 97
      have bl := blk_lt hh.mem
      have bly := blk_lt hhy.mem
      have hs1 := slX_run 260 64 u_a64b b 33 (H.n % 64) (Nat.mod_lt _ (by decide)) wr
      rw [show ((H.n % 64 : Nat) : Int) = (H.n : Int) % 64 from by omega] at hs1
      simp only at d97
      have hn2 : H.n + m < 2305843009213693952 := by omega
      have hn3 : H.n < 2305843009213693952 := by omega
      have hmm : m ≤ 64 := by omega
      have hfin : absorbs wd h (l1 ++ l2.take m) = absorbs wd H (l2.take m) := habs _
      have hll2 : l = (l1 ++ l2.take m) ++ l2.drop m := by rw [List.append_assoc, List.take_append_drop]; exact hll
      have hdl2 : (l2.drop m).length < l2.length := by rw [List.length_drop]; omega
      have HLL := Lib.hid hll2
      have HFI : Shut (absorbs wd h (l1 ++ l2.take m) = absorbs wd H (l2.take m)) := ⟨hfin⟩
      have HML := Lib.hid hml
      have HG := Lib.hid hg
      have hdo2 := hdo b ho
      have bl3 : b < (wy.setCell ⟨b, 97, none⟩ (.int .u64 (H.n + m : Nat))).heap.size := by rw [World.size_setCell]; exact bly
      have z97 : (wy.setCell ⟨b, 97, none⟩ (.int .u64 (H.n + m : Nat))).cell? ⟨b, 97, none⟩ = some (.int .u64 (H.n + m : Nat)) := hhz.cell97
      rw [show ((H.n + m : Nat) : Int) = (H.n : Int) + m from by omega] at z97 bl3
      by_cases hz : (H.n + m) % 64 = 0
      · rw [if_pos hz] at hchunk
        have ez : (((H.n : Int) + m) % 64 == 0) = true := by rw [beq_iff_eq]; omega
        have hco := compress_ok wd H.st (patch H.rest (H.n % 64) (l2.take m))
        have hcc := fun W (hc : Chg [] (wy.setCell ⟨b, 97, none⟩ (.int .u64 (H.n + m : Nat))) W) => (compress_calls W wd H.st (patch H.rest (H.n % 64) (l2.take m)) hhz.ok.st.1 hhz.ok.rest.1 hhz.ok.st.2 hhz.ok.rest.2 (hkz.chg0 hc)).mono (R' := CompP W wd H.st (patch H.rest (H.n % 64) (l2.take m))) fun e w' h => h
        have hS : ∀ W : World, Chg [] (wy.setCell ⟨b, 97, none⟩ (.int .u64 (H.n + m : Nat))) W → W.cell? ⟨b, 0, none⟩ = some (.int .i64 wd) ∧ rng? W b 1 32 = some (hV H.st) ∧ rng? W b 33 64 = some (hV (patch H.rest (H.n % 64) (l2.take m))) ∧ may W b 1 32 = true := fun W hc =>
          ⟨(hhz.chg hc (by simp)).cell0, (hhz.chg hc (by simp)).rngSt, (hhz.chg hc (by simp)).rngRest, (hhz.chg hc (by simp)).may W⟩
        have hE : ∀ W : World, Chg [] (wy.setCell ⟨b, 97, none⟩ (.int .u64 (H.n + m : Nat))) W → HaIs (setRng W b 1 (hV (compressN wd H.st (patch H.rest (H.n % 64) (l2.take m))))) b wd (absorbs wd H (l2.take m)) := fun W hc => by
          rw [hchunk]
          exact (hhz.chg hc (by simp)).setSt _ hco.1 hco.2
        have hone := hV_one (compressN wd H.st (patch H.rest (H.n % 64) (l2.take m)))
        have hsz := hV_size (compressN wd H.st (patch H.rest (H.n % 64) (l2.take m)))
        rw [hco.1] at hsz
        have hdz2 := fun W (hc : Chg [] (wy.setCell ⟨b, 97, none⟩ (.int .u64 (H.n + m : Nat))) W) (cs : Array Value) => (hdz.chg0 hc).chg (setRng_chg W b 1 cs) (by simpa using hdo2)
        rw [show ((H.n + m : Nat) : Int) = (H.n : Int) + m from by omega] at hcc hS hE hdz2 hcz
        have HE := Lib.hid hE
        have HDZ := Lib.hid hdz2
        have HCZ := hcw.trans hcz (by simp)
        clear hz hchunk hE hdz2 hhz hfin hll2 hml hg hnn hk2 hlen hpos habs hH hm hcy hly hdl hdo hcz hdz hkz hll h0 hl ho hh hhy hkb hk hcw hco
        generalize patch H.rest (H.n % 64) (l2.take m) = rest at *
        generalize H.st = st at *
        generalize hcs : hV (compressN wd st rest) = cs at *
        have HCS : Shut (hV (compressN wd st rest) = cs) := ⟨hcs⟩
        clear hcs
        go_upto_region 6 with (fail)
        generalize hwz : wy.setCell ⟨b, 97, none⟩ (.int .u64 ((H.n : Int) + m)) = wz at *
        clear hwz f97 d97 c97
        obtain ⟨q0, q1, q2, q3⟩ := hS wz (Chg.refl _ _)
        have hS2 := Lib.hid hS
        clear hS
        go_region_with (go_at_call 236; refine (hcc _ (Chg.refl _ _).drew).mono ?_; rintro e w3 ⟨rfl, hc3⟩; rw [HCS.out]; have hC3 := ((Chg.refl [] wz).drew).nil_trans hc3; have hm3 := (hS2.out _ hC3).2.2.2)
        all_goals
          go_wp2
          go_roundg (l2.drop m).length
          case measure => rw [HG.out]; exact hdl2
          case rel => exact ⟨l1 ++ l2.take m, l2.drop m, HLL.out, rfl, HDZ.out w3 hC3 cs, hdo2, by rw [HFI.out]; exact HE.out w3 hC3, (HCZ.nil_trans hC3).setRng (by simp) _ _⟩
      · rw [if_neg hz] at hchunk
        have ez : (((H.n : Int) + m) % 64 == 0) = false := by rw [beq_eq_false_iff_ne]; omega
        have hhz2 : HaIs (wy.setCell ⟨b, 97, none⟩ (.int .u64 (H.n + m : Nat))) b wd (absorbs wd H (l2.take m)) := by rw [hchunk]; exact hhz
        rw [show ((H.n + m : Nat) : Int) = (H.n : Int) + m from by omega] at hhz2 hdz hcz
        have HHZ := Lib.hid hhz2
        have HDZ := Lib.hid hdz
        have HCZ := hcw.trans hcz (by simp)
        clear hz hchunk hhz2 hhz hfin hll2 hml hg hnn hk2 hlen hpos habs hH hm hcy hly hdl hdo hcz hdz hkz hll h0 hl ho hh hhy hkb hk hcw
        go_wp2
        go_roundg (l2.drop m).length
        case measure => rw [HG.out]; exact hdl2
        case rel => exact ⟨l1 ++ l2.take m, l2.drop m, HLL.out, rfl, HDZ.out, hdo2, by rw [HFI.out]; exact HHZ.out, HCZ⟩
end Go.Proofs.YtpklkefnmoaaaaaGreatDoor
