/- The document's find: its list in memory; Add, Leaf, Cut, At walked. -/
import Derived.Test.YtonppfebmeehcaaFdJ
namespace Go.Proofs.Ytonppfebmeehcaa
open Go.RowKit
set_option linter.unusedVariables false
set_option linter.unusedSimpArgs false

structure RfIs (w : World) (rb : Nat) (rv : Value) (ls : List HK) : Prop where
  mem : w.heap[rb]? = some (.cells #[rv] 28 (0, 0))
  row : HOwn w 0 rv (ls.map (·.1))
  ne : rb ∉ ob rv
theorem RfIs.chg {w w' : World} {rb : Nat} {rv : Value} {ls : List HK} {F : List Nat} (h : RfIs w rb rv ls) (hc : Chg F w w') (h1 : rb ∉ F) (h2 : ∀ x ∈ ob rv, x ∉ F) : RfIs w' rb rv ls := ⟨hc.at h.mem h1, h.row.chg hc h2, h.ne⟩
theorem RfIs.chg0 {w w' : World} {rb : Nat} {rv : Value} {ls : List HK} (h : RfIs w rb rv ls) (hc : Chg [] w w') : RfIs w' rb rv ls := h.chg hc (by simp) (by simp)
theorem HOwn.rowI {w : World} {B : Nat} {v : Value} {ls : List HK} (h : HOwn w B v (ls.map (·.1))) : ∃ a cap, v = .slice a ls.length cap ∧ ∀ i (hi : i < ls.length), ∃ g, a = some ⟨g, 0, none⟩ ∧ g < w.heap.size ∧ rng? w g (i * 32) 32 = some ls[i].1 := by
  obtain ⟨hI, a, cap, rfl, hr⟩ := h.hs
  refine ⟨a, cap, by rw [List.length_map], fun i hi => ?_⟩
  rcases hr with q | ⟨g, o, rfl, hg, hr⟩
  · have : ls = [] := by simpa using q
    rw [this] at hi; simp at hi
  · rcases h.1.2 with ⟨hv, h0⟩ | ⟨g', cap', cur, hv, hb, _⟩
    · cases hv
    · injection hv with e1
      injection e1 with e1
      injection e1 with e1 e2
      subst e1 e2
      refine ⟨g, rfl, hg, ?_⟩
      have := hr i (by simpa using hi)
      rw [Nat.zero_add] at this
      simpa using this
theorem HOwn.capI {w : World} {B : Nat} {a : Option Addr} {n cap : Nat} {hs : List (Array Value)} (h : HOwn w B (.slice a n cap) hs) : hs.length ≤ cap ∧ cap ≤ 9223372036854775807 := by
  rcases h.1.2 with ⟨hv, h0⟩ | ⟨g', cap', cur, hv, hb, _, h3, h4, _⟩
  · injection hv with _ e1 e2; omega
  · injection hv with _ e1 e2; unfold maxLen at h4; omega
def AddR (w : World) (rb : Nat) (rv : Value) (ls : List HK) (k : HK) (e : Ending) (w' : World) : Prop := ∃ rv', e = .returned (.int .u64 (ls.length : Nat)) ∧ RfIs w' rb rv' (ls ++ [k]) ∧ Chg (rb :: ob rv) w w' ∧ ∀ x ∈ ob rv', x ∈ ob rv ∨ w.heap.size ≤ x
section
attribute [local go_sem ↓] hold_apY
set_option maxRecDepth 100000 in
set_option maxHeartbeats 4000000 in
theorem rAdd_calls (w : World) (rb : Nat) (rv : Value) (ls : List HK) (h : RfIs w rb rv ls) (hl : ls.length ≤ 100000) (k : HK) : Calls Try.prog 11 #[.pointer (some ⟨rb, 0, none⟩), .agg k.1] w (AddR w rb rv ls k) := by
  obtain ⟨w0, rfl⟩ : ∃ w0 : World, w0 = w := ⟨_, rfl⟩
  have hk1 := k.2.1
  have hk2 := k.2.one
  have h1 := h.chg0 ((Chg.refl [] w0).alloc (.cells k.1 30))
  have hbx := rng?_row (blk_new w0 (.cells k.1 30)) hk1
  have hLn : w0.heap.size < (w0.alloc (.cells k.1 30)).heap.size := by simp
  have c0 : (w0.alloc (.cells k.1 30)).cell? ⟨rb, 0, none⟩ = some rv := blk_cell h1.mem 0 rfl
  have c0b : ((w0.alloc (.cells k.1 30)).alloc (.cells k.1 30)).cell? ⟨rb, 0, none⟩ = some rv := blk_cell (((Chg.refl [] (w0.alloc (.cells k.1 30))).alloc _).at h1.mem (by simp)) 0 rfl
  have hb := blk_lt h1.mem
  obtain ⟨v2, w2, hr2, hO2, hc2, hb2⟩ := (h1.row.chg ((Chg.refl [] (w0.alloc (.cells k.1 30))).drew) (by simp)).push k.1 k.2 (by rw [List.length_map]; omega) (Nat.zero_le _) 26
  obtain ⟨a2, cap2, hv2⟩ := hO2.shape
  rw [show (ls.map (·.1) ++ [k.1]).length = ls.length + 1 from by simp] at hv2
  subst hv2
  have hrun : (apY #[26, 26] 26 #[rv, .slice (some ⟨(w0.alloc (.cells k.1 30)).heap.size, 0, none⟩) 1 1]).run Try.prog (((w0.alloc (.cells k.1 30)).alloc (.cells k.1 30)).drew) = .ok (.slice a2 (ls.length + 1) cap2) w2 := hr2
  rw [World.size_alloc] at hrun
  have hm2 := hc2.at (((Chg.refl [] (w0.alloc (.cells k.1 30))).drew).at h1.mem (by simp)) h.ne
  have d1 : w2.frozen? ⟨rb, 0, none⟩ = false := blk_frozen hm2 0
  have d3 : w2.cell? ⟨rb, 0, none⟩ = some rv := blk_cell hm2 0 rfl
  have hfin : AddR w0 rb rv ls k (.returned (.int .u64 (ls.length : Nat))) (w2.setCell ⟨rb, 0, none⟩ (.slice a2 (ls.length + 1) cap2)) := by
    have hx : ∀ x ∈ ob (.slice a2 (ls.length + 1) cap2), x ∈ ob rv ∨ w0.heap.size ≤ x := fun x hx => by
      rcases hb2 x hx with q | q
      · exact .inl q
      · have : w0.heap.size ≤ (w0.alloc (.cells k.1 30)).drew.heap.size := (((Chg.refl [] w0).alloc _).drew).size
        exact .inr (by omega)
    have hne : rb ∉ ob (.slice a2 (ls.length + 1) cap2) := fun hx2 => by
      rcases hx rb hx2 with q | q
      · exact h.ne q
      · have := blk_lt h.mem; omega
    have hcs : Chg [rb] w2 (w2.setCell ⟨rb, 0, none⟩ (.slice a2 (ls.length + 1) cap2)) := (Chg.refl _ _).setCell (by simp) _
    refine ⟨_, rfl, ⟨blk_set hm2 0 _, ?_, hne⟩, ?_, hx⟩
    · rw [List.map_append]
      exact hO2.chg hcs (fun x hx hxr => by simp at hxr; subst hxr; exact hne hx)
    · have q1 : Chg (rb :: ob rv) w0 (w0.alloc (.cells k.1 30)).drew := ((Chg.refl _ _).alloc _).drew
      exact (q1.trans hc2 (fun x hx => .inl (List.mem_cons_of_mem _ hx))).trans hcs (fun x hx => .inl (by simp at hx; subst hx; exact List.mem_cons_self))
  have d2 := blk_cell (blk_set hm2 0 (.slice a2 (ls.length + 1) cap2)) 0 rfl
  have hbl2 := blk_lt hm2
  have HF := Lib.hid hfin
  clear hfin hO2 hb2 hc2 h1 hr2 hm2 h
  go_enter Try.func11, Try.ntmps11
  go_upto_region 1 with (fail)
  go_region
  go_wp2
  go_ret
  exact HF.out
end
theorem rLeaf_calls (w : World) (rb : Nat) (rv : Value) (ls : List HK) (h : RfIs w rb rv ls) (hl : ls.length ≤ 100000) (i : Nat) (hi2 : i < 18446744073709551616) : Calls Try.prog 16 #[.pointer (some ⟨rb, 0, none⟩), .int .u64 i] w (Res w [] (.tuple #[.agg (lfH ls i), .int .i64 (lfE ls i)])) := by
  have h1 := h.chg0 ((Chg.refl [] w).alloc (.cells zeroHash 30))
  have c0 := blk_cell h1.mem 0 rfl
  have hb := blk_lt h1.mem
  obtain ⟨a, cap, rfl, hr⟩ := h1.row.rowI
  by_cases hi : ls.length ≤ i
  · have e1 : Hid (lfH ls i = zeroHash) := by unfold Hid lfH; rw [List.getElem?_eq_none hi]; rfl
    have e2 : Hid (lfE ls i = 32) := by unfold Hid lfE; rw [if_neg (by omega)]
    clear h h1 hr
    go_enter Try.func16, Try.ntmps16
    go_wp2
    refine bodyPost_ret (res_Hash2 rfl _ _ rfl (rng?_alloc_at _ _ _ _ _ rfl zeroHash_size)) rfl ⟨by rw [e1.out, e2.out]; rfl, ?_⟩
    exact (Chg.refl _ _).alloc _
  · have hi : i < ls.length := by omega
    have e1 : Hid (lfH ls i = ls[i].1) := by unfold Hid lfH; rw [List.getElem?_eq_getElem hi]; rfl
    have e2 : Hid (lfE ls i = 0) := by unfold Hid lfE; rw [if_pos hi]
    obtain ⟨g, rfl, hg, hrow⟩ := hr i hi
    have hs1 := ls[i].2.1
    have hs2 := ls[i].2.one
    have n0 : (0 : Int) ≤ (i : Int) := by omega
    have n1 : (i : Int) < (ls.length : Int) := by omega
    clear h h1 hr
    generalize ls[i].1 = x at *
    go_enter Try.func16, Try.ntmps16
    go_wp2
    refine bodyPost_ret (res_Hash2 rfl _ _ rfl (rng?_alloc_at _ _ _ _ _ rfl hs1)) rfl ⟨by rw [e1.out, e2.out]; rfl, ?_⟩
    exact (Chg.refl _ _).alloc _
theorem rCut_far (w : World) (rb : Nat) (rv : Value) (ls : List HK) (h : RfIs w rb rv ls) (hl : ls.length ≤ 100000) (n : Nat) (hn : ls.length < n) (hn2 : n < 18446744073709551616) : Calls Try.prog 19 #[.pointer (some ⟨rb, 0, none⟩), .int .u64 n] w (Res w [] (.int .i64 30)) := by
  have c0 := blk_cell h.mem 0 rfl
  have hb := blk_lt h.mem
  obtain ⟨a, cap, rfl, hr⟩ := h.row.rowI
  clear h hr
  go_enter Try.func19, Try.ntmps19
  go_wp2
  go_ret
  exact ⟨rfl, Chg.refl _ _⟩
theorem emptyB (w : World) (B : Nat) (hB : B ≤ w.heap.size) : HOwn (w.alloc (.cells #[] 30)) B (.slice (some ⟨w.heap.size, 0, none⟩) 0 0) [] :=
  ⟨own_new w B 30 32 0 #[] hB rfl (by decide), by simp⟩
theorem bs_HashE (w : World) : (bsX 26 0 #[]).run Try.prog w = .ok (.slice (some ⟨w.heap.size, 0, none⟩) 0 0) (w.alloc (.cells #[] 30)) := by
  obtain ⟨i, hi, hz, hsz, _⟩ := infoOf i_Hash
  have hso : ∀ w, (sizeOf 30).run Try.prog w = .ok 32 w := by intro w; simp [sizeOf, typeInfo, hi, hsz]
  unfold bsX Instr.buildSlice
  simp only [Sem.run_bind, run_underlying u_hashes, Result.andThen_ok, hso, Sem.run_ite, Nat.zero_mul, Sem.run_pure]
  simp only [show ¬ (0 > 2 ^ 24) from by decide, if_false, if_true, Result.andThen_ok]
  have e : (Array.map (fun x => (#[] : Array Value)[x % (#[] : Array Value).size]!) (Array.range 0)) = #[] := by simp
  rw [e]
  rfl
theorem HsIs.rdF {w : World} {a : Option Addr} {m cap : Nat} {l : List (Array Value)} (h : HsIs w (.slice a m cap) l) : m = l.length ∧ Rd w 32 a m (l.flatMap (·.toList)) := by
  obtain ⟨hI, a', cap', hv, hr⟩ := h
  injection hv with h1 h2 h3
  subst h1 h2
  refine ⟨rfl, flat_length hI, fun hm => ?_⟩
  rcases hr with hr | ⟨b, o, ha, hb, hr⟩
  · subst hr; simp at hm
  · refine ⟨b, o, ha, fun j u hu => ?_⟩
    have hjl : j < l.length * 32 := by
      have := (List.getElem?_eq_some_iff.1 hu).1
      rwa [flat_length hI] at this
    have hd : j / 32 < l.length := by omega
    have e := flat_at hI (j / 32) hd (j % 32) (by omega)
    rw [show j / 32 * 32 + j % 32 = j from by omega, hu] at e
    have hx := (hI _ (List.getElem_mem hd)).1
    have hc := (rng?_cell (hr (j / 32) hd)).2 (j % 32) (by rw [hx]; omega)
    rw [show o + j / 32 * 32 + j % 32 = o + j from by omega] at hc
    rw [hc]
    rw [e]
    rw [Array.getElem?_eq_getElem (by rw [hx]; omega)]
theorem HOwn.appendF {w : World} {B : Nat} {v : Value} {hs l : List (Array Value)} {a : Option Addr} {m cap : Nat} (h : HOwn w B v hs) (hl : HsIs w (.slice a m cap) l) (hlen : hs.length + l.length ≤ 4294967296) (hB : B ≤ w.heap.size) (ty : TypeId) :
    ∃ v' w', (Builtin.append_ #[26, 26] ty #[v, .slice a m cap]).run Try.prog w = .ok v' w' ∧ HOwn w' B v' (hs ++ l) ∧ Chg (ob v) w w' ∧ (∀ k ∈ ob v', k ∈ ob v ∨ w.heap.size ≤ k) := by
  obtain ⟨i, hi, hz, hsz, hby⟩ := infoOf i_Hash
  obtain ⟨rfl, hrd⟩ := hl.rdF
  obtain ⟨v', w', hr, h2, h3, h4⟩ := run_append_any (P := Try.prog) w B 26 ty 30 i _ 32 32 u_hashes hi hz hsz hby zeroHash_size (by decide) v hs.length _ h.1 a l.length cap _ hrd
    (fun u hu => by
      obtain ⟨x, hx, hux⟩ := List.mem_flatMap.1 hu
      obtain ⟨n, rfl, _⟩ := (hl.1 x hx).2 u hux
      rfl) (by unfold maxLen; omega) (by omega) hB
  refine ⟨v', w', hr, ⟨?_, fun y hy => ?_⟩, h3, h4⟩
  · rw [List.length_append, List.flatMap_append]
    exact h2
  · rcases List.mem_append.1 hy with q | q
    · exact h.2 y q
    · exact hl.1 y q
theorem HsIs.takeF {w : World} {a : Option Addr} {m cap : Nat} {l : List (Array Value)} (h : HsIs w (.slice a m cap) l) (n : Nat) (hn : n ≤ l.length) : HsIs w (.slice a n cap) (l.take n) := by
  obtain ⟨hI, a', cap', hv, hr⟩ := h
  injection hv with h1 h2 h3
  subst h1 h3
  refine ⟨fun x hx => hI x (List.mem_of_mem_take hx), a, cap, by rw [List.length_take, Nat.min_eq_left hn], ?_⟩
  rcases hr with hr | ⟨b, o, ha, hb, hr⟩
  · exact .inl (by rw [hr]; simp)
  · refine .inr ⟨b, o, ha, hb, fun i hi => ?_⟩
    have hi2 : i < l.length := by rw [List.length_take] at hi; omega
    rw [hr i hi2, List.getElem_take]
def CutR (w : World) (rb : Nat) (rv : Value) (ls : List HK) (n : Nat) (e : Ending) (w' : World) : Prop := ∃ rv', e = .returned (.int .i64 0) ∧ RfIs w' rb rv' (ls.take n) ∧ Chg [rb] w w' ∧ ∀ x ∈ ob rv', w.heap.size ≤ x
set_option maxRecDepth 100000 in
theorem rCut_ok (w : World) (rb : Nat) (rv : Value) (ls : List HK) (h : RfIs w rb rv ls) (hl : ls.length ≤ 100000) (n : Nat) (hn : n ≤ ls.length) : Calls Try.prog 19 #[.pointer (some ⟨rb, 0, none⟩), .int .u64 n] w (CutR w rb rv ls n) := by
  have hbe := bs_HashE
  have c0 := blk_cell h.mem 0 rfl
  have hb := blk_lt h.mem
  have hA : Chg [] w (w.alloc (.cells #[] 30)) := (Chg.refl _ _).alloc _
  have hE := emptyB w w.heap.size (Nat.le_refl _)
  obtain ⟨a, cap, rfl, hr⟩ := h.row.rowI
  have hcap := h.row.capI
  rw [List.length_map] at hcap
  have hH := (h.row.hs.chg hA (by simp)).takeF n (by rw [List.length_map]; exact hn)
  obtain ⟨v', w', hrun, hO, hc, hb2⟩ := hE.appendF hH (by rw [List.length_take]; simp; omega) (by simp) 26
  rw [List.nil_append] at hO
  obtain ⟨a2, cap2, rfl⟩ : ∃ a2 cap2, v' = .slice a2 n cap2 := by
    obtain ⟨a2, cap2, h2⟩ := hO.shape
    rw [List.length_take, List.length_map, Nat.min_eq_left hn] at h2
    exact ⟨a2, cap2, h2⟩
  have hc0 : Chg [] w w' := hA.trans hc (fun x hx => .inr (by rw [ob_some] at hx; simp at hx; omega))
  have hm' := hc0.at h.mem (by simp)
  have d1 := blk_frozen hm' 0
  have d2 := blk_cell hm' 0 rfl
  have hol := own_lt hO.1
  have hcA : (w.alloc (.cells #[] 30)).cell? ⟨rb, 0, none⟩ = some (.slice a ls.length cap) := blk_cell (hA.at h.mem (by simp)) 0 rfl
  have hfin : CutR w rb (.slice a ls.length cap) ls n (.returned (.int .i64 0)) (w'.setCell ⟨rb, 0, none⟩ (.slice a2 n cap2)) := by
    have hcs : Chg [rb] w' (w'.setCell ⟨rb, 0, none⟩ (.slice a2 n cap2)) := (Chg.refl _ _).setCell (by simp) _
    have hne : ∀ x ∈ ob (.slice a2 n cap2), x ≠ rb := fun x hx e => by have := (hol x hx).1; have := blk_lt h.mem; omega
    refine ⟨_, rfl, ⟨blk_set hm' 0 _, ?_, fun hx => hne _ hx rfl⟩, (hc0.of_nil).trans hcs (fun x hx => .inl hx), fun x hx => (hol x hx).1⟩
    rw [List.map_take]
    exact ⟨own_mono (hO.chg hcs (fun x hx hxr => by simp at hxr; exact hne x hx hxr)).1 (Nat.zero_le _), hO.2⟩
  have HF := Lib.hid hfin
  clear hfin hO hc hb2 hH hE hr h hc0 hm' hol hA
  go_enter Try.func19, Try.ntmps19
  go_wp2_with (at_builtin; refine Lib.wpList_append_run _ rfl _ _ _ _ rfl _ _ rfl rfl _ _ hrun ?_)
  go_ret
  exact HF.out
end Go.Proofs.Ytonppfebmeehcaa
