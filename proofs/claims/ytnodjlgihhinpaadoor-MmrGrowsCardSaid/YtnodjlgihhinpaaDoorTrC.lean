/- A tree: peaks, the root. -/
import Derived.Test.YtnodjlgihhinpaaDoorTrA
import Derived.Test.YtnodjlgihhinpaaDoorHsO
namespace Go.Proofs.YtnodjlgihhinpaaDoor
open Go.RowKit
set_option linter.unusedVariables false
set_option linter.unusedSimpArgs false

def TPeaksP (w : World) (s : SS) (ps : List Nat) (e : Ending) (w' : World) : Prop :=
  (∃ v, (∀ p ∈ ps, s.getE p = 0) ∧ e = .returned (.tuple #[v, .int .i64 0]) ∧ HOwn w' w.heap.size v (ps.map s.getH) ∧ Chg [] w w') ∨
  (∃ (i : Nat) (h : i < ps.length), (∀ j (hj : j < i), s.getE ps[j] = 0) ∧ s.getE ps[i] ≠ 0 ∧ e = .returned (.tuple #[.slice none 0 0, .int .i64 (s.getE ps[i])]) ∧ Chg [] w w')
theorem own_mono' {w : World} {base B : Nat} {e : TypeId} {size n : Nat} {v : Value} {xs : List Value} (h : w.ownsRow base e size v n xs) (hB : B ≤ base) : w.ownsRow B e size v n xs := by
  refine ⟨h.1, ?_⟩
  rcases h.2 with hv | ⟨g, cap, cur, hv, hb, hr⟩
  · exact .inl hv
  · exact .inr ⟨g, cap, cur, hv, by omega, hr⟩
theorem pkL_len (n c : Nat) : (pkL n c).length ≤ c := by
  unfold pkL
  rw [List.length_map]
  exact Nat.le_trans (List.length_filter_le _ _) (by simp)
theorem nodes_lt (n : Nat) (h : n ≤ 4611686018427387904) : nodesN n < 9223372036854775808 := by
  have h2 := nodes_mono (show n ≤ 2 ^ 62 from h)
  rw [nodes_pow0] at h2
  have h3 : (2 : Nat) ^ (62 + 1) = 9223372036854775808 := by decide
  omega
theorem UOwn.cells {w : World} {B : Nat} {v : Value} {l : List Nat} (h : UOwn w B v l) : ∃ a cap, v = .slice a l.length cap ∧ (l = [] ∨ ∃ b o, a = some ⟨b, o, none⟩ ∧ b < w.heap.size ∧ ∀ i (hi : i < l.length), w.cell? ⟨b, o + i, none⟩ = some (.int .u64 (l[i] : Nat))) := by
  rcases h.2 with ⟨rfl, h0⟩ | ⟨g, cap, cur, rfl, hb, hh, hnc, hm, hcs, ht⟩
  · have : l = [] := List.eq_nil_of_length_eq_zero h0
    subst this
    exact ⟨none, 0, rfl, .inl rfl⟩
  · refine ⟨_, cap, rfl, .inr ⟨g, 0, rfl, blk_lt hh, fun i hi => ?_⟩⟩
    rw [Nat.zero_add]
    refine blk_cell hh i ?_
    have e : (l.map fun (n : Nat) => Value.int .u64 (n : Int))[i]? = some (.int .u64 (l[i] : Nat)) := by simp [hi]
    rw [← ht, List.getElem?_take] at e
    split at e
    · simpa using e
    · cases e
set_option maxRecDepth 100000 in
set_option maxHeartbeats 4000000 in
theorem tpeaks_calls (w : World) (b : Nat) (t : TS) (n : Nat) (ht : TrIs w b t) (hn : n ≤ 4611686018427387904) :
    Calls Tryd.prog 32 #[.pointer (some ⟨b, 0, none⟩), .int .u64 n] w (TPeaksP w t.s (peaksN n)) := by
  have hpl := peaksl_calls n hn w
  have hplt : ∀ p ∈ peaksN n, p < 18446744073709551616 := fun p hp => by have := peaks_lt n p hp; have := nodes_lt n hn; omega
  have hpll : (peaksN n).length ≤ 63 := pkL_len n 63
  go_enter Tryd.func32, Tryd.ntmps32
  go_wp2_with (go_at_call 54; refine hpl.mono ?_; rintro e w1 ⟨pv, rfl, hU, hc1⟩; obtain ⟨pa, pcap, rfl, hpc⟩ := hU.cells)
  generalize peaksN n = ps at *
  clear hpl hU
  obtain ⟨w0, rfl⟩ : ∃ w0 : World, w0 = w := ⟨_, rfl⟩
  go_loopg [14, 6] ps.length (fun g ii vv wx => ∃ i : Nat, i ≤ ps.length ∧ g = ps.length - i ∧ ii = .int .i64 i ∧ HOwn wx w1.heap.size vv ((ps.take i).map t.s.getH) ∧ (∀ p ∈ ps.take i, t.s.getE p = 0) ∧ Chg [] w1 wx)
  case atStart => exact ⟨0, by omega, by omega, rfl, HOwn.nil _ _, by simp, Chg.refl _ _⟩
  case round =>
    obtain ⟨i, hi, hg, rfl, hO, hE, hC1⟩ := hrel
    have hC := hc1.nil_trans hC1
    by_cases hlt : i < ps.length
    · have hlt' : i < ps.length := hlt
      rcases hpc with hpc | ⟨pb, po, rfl, hpb, hpc⟩
      · subst hpc; simp at hlt'
      have hcell := (hC1.cell (p := ⟨pb, po + i, none⟩) hpb (by simp)).trans (hpc i hlt')
      have hbl := World.block_lt_of_cell? _ _ hcell
      have htk : ps.take (i + 1) = ps.take i ++ [ps[i]] := List.take_succ_eq_append_getElem hlt'
      have htr := ht.chg0 hC
      have c0 := blk_cell htr.mem 0 rfl
      have hbr := blk_lt htr.mem
      have hget := fun (W : World) (hc : Chg [] wr W) => get_calls t.sb ps[i] t.s W (htr.st.chg0 hc) (hplt _ (List.getElem_mem hlt'))
      have hgi := IsHash.getH htr.st ps[i]
      have hH1 := hgi.1
      have hH2 := hgi.one
      have hpush := fun (W : World) (hc : Chg [] wr W) => (hO.chg hc (by simp)).push (t.s.getH ps[i]) hgi (by rw [List.length_map, List.length_take]; omega) (by have := hC1.size; have := hc.size; omega) 22
      have hj : ∀ j (hj : j < i), t.s.getE ps[j] = 0 := fun j hj => hE _ (by have := List.getElem_mem (l := ps.take i) (n := j) (by rw [List.length_take]; omega); rwa [List.getElem_take] at this)
      by_cases hE0 : t.s.getE ps[i] = 0
      · have hE2 : ∀ p ∈ ps.take (i + 1), t.s.getE p = 0 := fun p hp => by
          rw [htk] at hp
          rcases List.mem_append.1 hp with q | q
          · exact hE p q
          · rw [List.mem_singleton.1 q]; exact hE0
        rw [hE0] at hget
        have hmap : (ps.take (i + 1)).map t.s.getH = (ps.take i).map t.s.getH ++ [t.s.getH ps[i]] := by rw [htk, List.map_append]; rfl
        have HM := Lib.hid hmap
        have HE2 := Lib.hid hE2
        have HP := Lib.hid hpush
        have HO := Lib.hid hO
        have HPC := Lib.hid hpc
        clear htk hmap hE hE2 hpush hO hgi hplt hpc hj hE0 htr
        generalize ps[i] = p at *
        generalize t.s.getH p = H at *
        go_upto_region 8 with (go_at_call 31; refine (hget _ (Chg.refl _ _)).mono ?_; rintro e w3 ⟨rfl, hc3⟩)
        have hcW : Chg [] wr (w3.alloc (.cells H 37)) := hc3.alloc _
        obtain ⟨v2, w2, hrun, hO2, hc2, hob⟩ := HP.out _ hcW
        have hol := own_lt (HO.out.chg hcW (by simp)).1
        have HW : Chg [] w1 w2 := (hC1.nil_trans hcW).trans hc2 (fun k hk => .inr (hol k hk).1)
        have HO2 := Lib.hid hO2
        rw [World.size_alloc] at hrun
        clear hO2 hc2 hob hcW hol hc3 hget
        go_wp2_with (at_builtin; refine Lib.wpList_append_run _ rfl _ _ _ _ rfl _ _ rfl rfl _ _ hrun ?_)
        go_roundg (ps.length - (i + 1))
        case measure => omega
        case rel => exact ⟨i + 1, by omega, rfl, by go_num, by rw [HM.out]; exact HO2.out, HE2.out, HW⟩
      · have hne : (t.s.getE ps[i] != 0) = true := by rw [bne_iff_ne]; exact hE0
        have hfin : ∀ W, Chg [] w0 W → TPeaksP w0 t.s ps (.returned (.tuple #[.slice none 0 0, .int .i64 (t.s.getE ps[i])])) W := fun W hW => .inr ⟨i, hlt', hj, hE0, rfl, hW⟩
        have HF := Lib.hid hfin
        clear htk hE hpush hO hgi hplt hpc hj hE0 htr hfin
        generalize ps[i] = p at *
        generalize t.s.getH p = H at *
        generalize t.s.getE p = E at *
        go_wp2_with (go_at_call 31; refine (hget _ (Chg.refl _ _)).mono ?_; rintro e w3 ⟨rfl, hc3⟩)
        go_ret2
        exact HF.out _ (hC.nil_trans (hc3.alloc _))
    · obtain rfl : i = ps.length := by omega
      rw [List.take_length] at hO hE
      clear hg hpc
      go_wp2
      go_ret2
      exact .inl ⟨_, hE, rfl, ⟨own_mono' hO.1 hc1.size, hO.2⟩, hC⟩
end Go.Proofs.YtnodjlgihhinpaaDoor
