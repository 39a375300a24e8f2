/- A find: Cut walked. -/
import Derived.Test.YtonppfebmeehcaaFdF
namespace Go.Proofs.Ytonppfebmeehcaa
open Go.RowKit
set_option linter.unusedVariables false
set_option linter.unusedSimpArgs false

def CutP (w : World) (b : Nat) (f : FS) (n : Nat) (e : Ending) (w' : World) : Prop := ∃ f', e = .returned (.int .i64 0) ∧ FdIs w' b f' ∧ f'.ls = f.ls.take n ∧ Chg (f.foot b) w w' ∧ ∀ x ∈ f'.foot b, x ∈ f.foot b
/-- Half cut: k are left, but the row is the whole one yet. -/
structure CutMid (w wx : World) (b : Nat) (f : FS) (a : Option Addr) (cap k : Nat) (f' : FS) : Prop where
  core : FdCore wx b f'
  m : f'.m = f.m
  ls : f'.ls = f.ls.take k
  lv : f'.lv = .slice a k cap
  chg : Chg [f.m] w wx
  foot : ∀ x ∈ f'.foot b, x ∈ f.foot b
theorem FdCore.look {w : World} {b : Nat} {f : FS} (h : FdCore w b f) (k : HK) : (Instr.lookup 70 (.map (some f.m)) (.agg k.1) false).run Try.prog w = .ok ((mget f.mp k).getD (.slice none 0 0)) w := by
  have := h.map.look encH_law u_maph z_u64s k false
  simpa [encH] using this
def muY (t : TypeId) (m k v : Value) : Sem Unit := Instr.mapUpdate t m k v
theorem hold_muY (t : TypeId) (m k v : Value) : Instr.mapUpdate t m k v = muY t m k v := rfl
attribute [local go_sem ↓] hold_luY hold_muY
set_option maxRecDepth 100000 in
set_option maxHeartbeats 4000000 in
theorem dCut_ok (w : World) (b : Nat) (f : FS) (h : FdIs w b f) (hl : f.ls.length ≤ 100000) (n : Nat) (hn : n ≤ f.ls.length) : Calls Try.prog 18 #[.pointer (some ⟨b, 0, none⟩), .int .u64 n] w (CutP w b f n) := by
  obtain ⟨w0, rfl⟩ : ∃ w0 : World, w0 = w := ⟨_, rfl⟩
  have hsz := dSize_calls w0 b f h (by omega)
  obtain ⟨hI, a, cap, hv, hr⟩ := h.row.hs
  rw [List.length_map] at hv
  have hcap : f.ls.length ≤ cap ∧ cap ≤ maxLen := by
    rcases h.row.1.2 with ⟨q1, q2⟩ | ⟨g, cap', cur, q1, _, _, q3, q4, _⟩
    · rw [hv] at q1; injection q1 with _ q5 q6; rw [List.length_map] at q2; unfold maxLen; omega
    · rw [hv] at q1; injection q1 with _ q5 q6; rw [List.length_map] at q3; omega
  have hcap : f.ls.length ≤ cap ∧ cap ≤ 9223372036854775807 := by unfold maxLen at hcap; omega
  have c0 := blk_cell h.mem 0 rfl
  rw [hv] at c0
  have hb := blk_lt h.mem
  have h0 : CutMid w0 w0 b f a cap f.ls.length f := ⟨h.core, rfl, by rw [List.take_length], hv, Chg.refl _ _, fun x hx => hx⟩
  have hd0 : decide (f.ls.length < n) = false := decide_eq_false (by omega)
  have H := Lib.hid h
  have HV := Lib.hid hv
  clear h hv
  go_enter Try.func18, Try.ntmps18
  go_wp2_with (go_at_call 22; refine hsz.mono ?_; rintro e w3 ⟨rfl, hw3⟩; obtain rfl : _ = w3 := hw3.symm)
  clear hsz
  go_loopg [5] (f.ls.length - n) (fun g ii wx => ∃ k f', n ≤ k ∧ k ≤ f.ls.length ∧ g = k - n ∧ ii = .int .i64 ((k : Int) - 1) ∧ CutMid w0 wx b f a cap k f')
  case atStart => exact ⟨_, f, hn, Nat.le_refl _, rfl, rfl, h0⟩
  case round =>
    clear h0
    obtain ⟨k, f', hnk, hkl, hg, rfl, hM⟩ := hrel
    have d0 : wr.cell? ⟨b, 0, none⟩ = some (.slice a f.ls.length cap) := by rw [hM.chg.cell (p := ⟨b, 0, none⟩) hb (by have := H.out.bm; simp; exact this)]; exact c0
    have hbr : b < wr.heap.size := Nat.lt_of_lt_of_le hb hM.chg.size
    by_cases hlt : n < k
    · obtain ⟨j, rfl⟩ : ∃ j, k = j + 1 := ⟨k - 1, by omega⟩
      rw [show (((j + 1 : Nat) : Int) - 1) = (j : Int) from by omega]
      have hj : j < f.ls.length := by omega
      have hjm : j < (f.ls.map (·.1)).length := by simpa using hj
      rcases hr with hr | ⟨g0, o0, rfl, hg0, hr⟩
      · rw [hr] at hjm; simp at hjm
      have hrow := rng?_chg hM.chg (hr j hjm) (by omega) (by
        have := H.out.ml
        rw [HV.out, ob_some] at this
        simp at this ⊢
        exact fun e => this e.symm)
      rw [show (f.ls.map (·.1))[j] = f.ls[j].1 from by simp] at hrow
      have hls : f'.ls = f.ls.take j ++ [f.ls[j]] := by rw [hM.ls, List.take_succ_eq_append_getElem hj]
      have htl : (f.ls.take j).length = j := by rw [List.length_take]; omega
      obtain ⟨lv', m', ls', mp'⟩ := f'
      have e1 := hM.m
      have e2 := hM.lv
      simp only at hls e1 e2
      subst hls e1 e2
      have hcore := hM.core
      have hxin : f.ls[j] ∈ f.ls.take j ++ [f.ls[j]] := List.mem_append.2 (.inr (by simp))
      have hsome := hcore.has _ hxin
      obtain ⟨v, hmv⟩ := Option.isSome_iff_exists.1 hsome
      have hvm := mget_mem hmv
      have hvU := (hcore.val _ _ hvm).1
      simp only at hvU
      rw [idxOf_append, if_pos rfl, htl] at hvU
      obtain ⟨va, vc, hvv⟩ := hvU.shapeU
      rw [List.length_append, List.length_singleton] at hvv
      have hX := f.ls[j].2
      have hs1 := hX.1
      have hs2 := hX.one
      have n0 : (0 : Int) ≤ (j : Int) := by omega
      have n1 : (j : Int) < (f.ls.length : Int) := by omega
      have hg0r : g0 < wr.heap.size := Nat.lt_of_lt_of_le hg0 hM.chg.size
      have d1 : wr.cell? ⟨b, 1, none⟩ = some (.map (some f.m)) := by rw [hM.chg.cell (p := ⟨b, 1, none⟩) hb (by have := H.out.bm; simp; exact this)]; exact blk_cell H.out.mem 1 rfl
      have hA : Chg [] wr (wr.alloc (.cells f.ls[j].1 30)) := (Chg.refl _ _).alloc _
      have hlk : (luY 70 (.map (some f.m)) (.agg f.ls[j].1) false).run Try.prog ((wr.alloc (.cells f.ls[j].1 30)).drew) = .ok v ((wr.alloc (.cells f.ls[j].1 30)).drew) := by
        have q := (hcore.chg0 hA.drew (by simp)).look f.ls[j]
        simp only [hmv, Option.getD_some] at q
        exact q
      have hidl := idxOf_length f.ls[j] (f.ls.take j)
      rw [htl] at hidl
      rw [hvv] at hlk hvU
      have hmut : ∀ W, Chg [] wr W → ∀ u, ∃ o, (Instr.mapUpdate 70 (.map (some f.m)) (.agg f.ls[j].1) u).run Try.prog W = .ok () (setMap W f.m o) ∧ MapIs encH (setMap W f.m o) f.m (mput mp' f.ls[j] u) := fun W hW u => by
        have := (hcore.map.chg hW (by simp)).upd encH_law u_maph f.ls[j] u
        simpa [encH] using this
      have hdel : ∀ W, Chg [] wr W → ∃ o, (deX #[70, 30] 0 #[.map (some f.m), .agg f.ls[j].1]).run Try.prog W = .ok (.tuple #[]) (setMap W f.m o) ∧ MapIs encH (setMap W f.m o) f.m (mdel mp' f.ls[j]) := fun W hW => by
        have := (hcore.map.chg hW (by simp)).del encH_law u_maph f.ls[j] 0
        exact this
      have HG := Lib.hid hg
      have HM := Lib.hid hM
      have HMU := Lib.hid hmut
      have HDE := Lib.hid hdel
      have HCO := Lib.hid hcore
      have HMV := Lib.hid hmv
      have HU := Lib.hid hvU
      have HVV := Lib.hid hvv
      have HTL := Lib.hid htl
      have hmem0 := hM.chg.at H.out.mem (by have := H.out.bm; simp; exact this)
      have HMM := Lib.hid hmem0
      have r0 : ∀ W, Chg [] wr W → W.cell? ⟨b, 1, none⟩ = some (.map (some f.m)) := fun W hW => by rw [hW.cell (p := ⟨b, 1, none⟩) hbr (by simp)]; exact d1
      have R0 := Lib.hid r0
      have hbx := rng?_alloc_at wr wr.heap.size 32 f.ls[j].1 30 rfl hs1
      have hLn : wr.heap.size < (wr.alloc (.cells f.ls[j].1 30)).heap.size := by simp
      have d1a : (wr.alloc (.cells f.ls[j].1 30)).cell? ⟨b, 1, none⟩ = some (.map (some f.m)) := r0 _ hA
      have hblA : b < (wr.alloc (.cells f.ls[j].1 30)).heap.size := by omega
      have hvlt := (own_lt hvU)
      obtain ⟨vg, rfl, hvc, hvm2, hU2⟩ := hvU.init rfl
      clear r0 hg hM hmut hdel hcore hmv hvU hvv hsome hvm hxin hX htl hr hI hmem0 hvlt
      have HU2 := Lib.hid hU2
      clear hU2
      generalize f.ls[j] = X at *
      have hm1 : (idxOf X (f.ls.take j)).length ≤ 100000 := by omega
      have HR := Lib.hid (show (idxOf X (f.ls.take j)).length = (idxOf X (f.ls.take j)).length from rfl)
      obtain ⟨M, hMe⟩ : ∃ M, (idxOf X (f.ls.take j)).length = M := ⟨_, rfl⟩
      rw [hMe] at hlk hvc hidl hm1
      rw [hMe] at HU2 HVV HU
      have HME := Lib.hid hMe
      clear hMe
      unfold maxLen at hvm2
      go_upto_region 7 with (fail)
      go_region
      have hC5 : Chg [] wr (wr.alloc (.cells X.1 30)).drew := hA.drew
      have d15 : (wr.alloc (.cells X.1 30)).drew.cell? ⟨b, 1, none⟩ = some (.map (some f.m)) := d1a
      have hbx5 : rng? (wr.alloc (.cells X.1 30)).drew wr.heap.size 0 32 = some X.1 := hbx
      have hL5 : wr.heap.size < (wr.alloc (.cells X.1 30)).drew.heap.size := hLn
      have hb5 : b < (wr.alloc (.cells X.1 30)).drew.heap.size := hblA
      clear d1a hbx hLn hblA hlk hA hrow
      generalize (wr.alloc (.cells X.1 30)).drew = w5 at *
      have hC5d := hC5.drew
      by_cases hz : M = 0
      · subst hz
        obtain ⟨o, hrun, hmp⟩ := HDE.out _ hC5d
        have hnext : CutMid w0 (setMap w5.drew f.m o) b f (some ⟨g0, o0, none⟩) cap j ⟨.slice (some ⟨g0, o0, none⟩) j cap, f.m, f.ls.take j, mdel mp' X⟩ := by
          have hcw : Chg [f.m] wr (setMap w5.drew f.m o) := (hC5d.of_nil).trans (setMap_chg _ _ _) (fun x hx => .inl hx)
          have hXn : X ∉ f.ls.take j := fun hin => by have := idx_of_mem hin; rw [HME.out] at this; omega
          obtain ⟨q1, q2⟩ := FdCore.less HCO.out HTL.out hcw hmp (fun k v hk => .inl (mem_del hk)) (fun k hk => by
            rw [mget_del, if_neg (fun e : k = X => hXn (e ▸ hk))]
            exact HCO.out.has k (by simp [hk]))
          exact ⟨q1, rfl, rfl, rfl, HM.out.chg.trans hcw (fun x hx => .inl hx), fun x hx => HM.out.foot x (q2 x hx)⟩
        have HN := Lib.hid hnext
        clear hnext hmp
        go_upto_region 10 with (fail)
        go_region
        go_wp2
        go_roundg (j - n)
        case measure => rw [HG.out]; omega
        case rel => exact ⟨j, _, by omega, by omega, rfl, by go_num, HN.out⟩
      · obtain ⟨o, hrun0, hmp⟩ := HMU.out _ hC5d (.slice (some ⟨vg, 0, none⟩) M vc)
        have hrun : (muY 70 (.map (some f.m)) (.agg X.1) (.slice (some ⟨vg, 0, none⟩) (M : Nat) vc)).run Try.prog w5.drew = .ok () (setMap w5.drew f.m o) := hrun0
        have hnext : CutMid w0 (setMap w5.drew f.m o) b f (some ⟨g0, o0, none⟩) cap j ⟨.slice (some ⟨g0, o0, none⟩) j cap, f.m, f.ls.take j, mput mp' X (.slice (some ⟨vg, 0, none⟩) M vc)⟩ := by
          have hcw : Chg [f.m] wr (setMap w5.drew f.m o) := (hC5d.of_nil).trans (setMap_chg _ _ _) (fun x hx => .inl hx)
          obtain ⟨q1, q2⟩ := FdCore.less HCO.out HTL.out hcw hmp (fun k v hk => by
            rcases mem_put hk with ⟨rfl, rfl⟩ | q
            · exact .inr ⟨rfl, mem_of_idx (by rw [HME.out]; omega), HU2.out, _, mget_mem HMV.out, by rw [HVV.out]; rfl⟩
            · exact .inl q) (fun k hk => by
            rw [mget_put]
            split
            · rfl
            · exact HCO.out.has k (by simp [hk]))
          exact ⟨q1, rfl, rfl, rfl, HM.out.chg.trans hcw (fun x hx => .inl hx), fun x hx => HM.out.foot x (q2 x hx)⟩
        have HN := Lib.hid hnext
        have hgt : decide (1 < M + 1) = true := by simp; omega
        have hgt2 : decide ((1 : Int) < (M : Int) + 1) = true := by simp; omega
        have hM0 : 0 < M := by omega
        clear hnext hmp hrun0
        go_upto_region 9 with (fail)
        go_region
        go_wp2
        go_roundg (j - n)
        case measure => rw [HG.out]; omega
        case rel => exact ⟨j, _, by omega, by omega, rfl, by go_num, HN.out⟩
    · obtain rfl : k = n := by omega
      have hbb := hM.chg.at H.out.mem (by have := H.out.bm; simp; exact this)
      have fz := blk_frozen hbb 0
      have hfin : CutP w0 b f k (.returned (.int .i64 0)) (wr.setCell ⟨b, 0, none⟩ (.slice a k cap)) := by
        have hc1 : Chg [b] wr (wr.setCell ⟨b, 0, none⟩ (.slice a k cap)) := (Chg.refl _ _).setCell (by simp) _
        have hcore := hM.core.chg0 hc1 (by simp)
        refine ⟨f', rfl, hcore.is ?_, hM.ls, ?_, hM.foot⟩
        · rw [hM.lv, hM.m]
          exact blk_set hbb 0 _
        · refine (hM.chg.mono (G := f.foot b) (fun x hx _ => by simp at hx; subst hx; exact FS.foot_map)).trans hc1 (fun x hx => .inl (by simp at hx; subst hx; exact FS.foot_head))
      have HF := Lib.hid hfin
      clear hfin hM hr hI hg hbb
      go_wp2
      go_ret
      exact HF.out
end Go.Proofs.Ytonppfebmeehcaa
