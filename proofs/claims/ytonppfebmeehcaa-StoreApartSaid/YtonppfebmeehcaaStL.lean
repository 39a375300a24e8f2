/- The store: kill of a node that lives. -/
import Derived.Test.YtonppfebmeehcaaStK
namespace Go.Proofs.Ytonppfebmeehcaa
open Go.RowKit
set_option linter.unusedVariables false
set_option linter.unusedSimpArgs false

set_option maxRecDepth 100000 in
set_option maxHeartbeats 1000000 in
theorem kill_live (b p : Nat) (s : SS) (w : World) (hst : StIs w b s) (hp : p < 18446744073709551616) {h : Array Value} (hno : s.node p = some h) :
    Calls Try.prog 46 #[.pointer (some ⟨b, 0, none⟩), .int .u64 p] w (KillPost w b s p) := by
  have hb := hst.blt
  have hs := hst.2.2.2.2.2.log
  have hn0 := hno
  unfold SS.node at hn0
  rw [Option.bind_eq_some_iff] at hn0
  obtain ⟨x, hlk, hxn⟩ := hn0
  obtain ⟨hx, hxk⟩ := look_mem hlk
  obtain ⟨hlv, hatl⟩ := set_live x.ns _ hxn
  have hfp : s.fptr p = some ⟨x.nb, qa s.log p * 33, none⟩ := by
    unfold SS.fptr
    rw [hlk]
    simp [hxn]
  have hck := hst.2.2.2.1 x hx
  have hap := hst.2.2.2.2.1
  have hea := hap.each x hx
  obtain ⟨hC, ⟨hl5, hr5 | ⟨g, cap5, cur5, hv5, _, hg5, hn5, hm5, hs5, ht5⟩⟩, hI, hcap⟩ := hck
  · simp at hr5
  simp only [Value.slice.injEq, Option.some.injEq, Addr.mk.injEq, and_true, true_and] at hv5
  obtain ⟨rfl, rfl⟩ := hv5
  have hltf := hst.lt
  have hfx : x.c ∈ s.foot b ∧ x.nb ∈ s.foot b := by
    simp only [SS.foot, List.mem_cons, List.mem_flatMap, List.not_mem_nil, or_false]
    exact ⟨.inr (.inr (.inr ⟨x, hx, .inl rfl⟩)), .inr (.inr (.inr ⟨x, hx, .inr rfl⟩))⟩
  have hxc := hltf _ hfx.1
  have hxb := hltf _ hfx.2
  have hcm := hltf s.cm (by simp [SS.foot])
  have hf := Lib.hid hfp
  have hlive := Lib.hid hlv
  have HXK := Lib.hid hxk
  have HLK := Lib.hid hlk
  have HXN := Lib.hid hxn
  have HV5 := Lib.hid hl5
  have HS5 := Lib.hid hs5
  have HT5 := Lib.hid ht5
  have hlen : x.ns.length ≤ 65536 := by
    have := (hst.2.2.2.2.2.key x hx).1
    have h2 : 2 ^ s.log ≤ 2 ^ 16 := Nat.pow_le_pow_right (by omega) hs
    omega
  have hle : liveOf x.ns ≤ 65536 := Nat.le_trans List.countP_le_length hlen
  have hap1 : 0 < s.alive := by
    have h1 : liveOf x.ns ≤ s.alive := by
      unfold SS.alive
      obtain ⟨l1, l2, hsp, _⟩ := find_split hlk
      rw [hsp]
      simp
      omega
    omega
  have hal := hst.2.2.2.2.2.al
  have hmay : may w x.nb (qa s.log p * 33) 33 = true := may_row _ _ hg5 (by rw [hs5]; omega)
  clear hno hfp hlv hxk hlk hxn hl5 hs5 ht5
  go_enter Try.func46, Try.ntmps46
  go_wp2_with (first
    | (go_at_call 47; refine (find_calls b p s _ hst hp).mono ?_; rintro e w1 ⟨rfl, hc1⟩; rw [hf.out]; have hmay1 := may_chg hc1 hmay (by omega) (by simp))
    | (go_at_call 70; refine (spot_calls _ s.log _ _ hs hp ?q1 ?q2).mono ?_; rotate_left 2; rintro e w2 ⟨rfl, hc2⟩))
  case q1 => rw [setRng_size]; exact (hst.chg0 hc1).blt
  case q2 => rw [cell?_setRng_other _ _ _ _ _ (by exact fun e => hea.2.2.2.2.1 e.symm)]; exact (hst.chg0 hc1).cell0
  have hB1 := hc1.at hst.1 (by simp)
  have hC1 := hc1.at hC (by simp)
  have hN1 := hc1.at hg5 (by simp)
  have hM1 := hst.2.1.chg hc1 (by simp)
  have hz : (nodeOf zeroHash false).size = 33 := nodeOf_size zeroHash_size false
  have hN2 := setRng_heap hN1 (qa s.log p * 33) (nodeOf zeroHash false) (by rw [HS5.out, hz]; omega)
  rw [hz] at hN2
  have hcF : Chg [x.nb] w1 (setRng w1 x.nb (qa s.log p * 33) (nodeOf zeroHash false)) := setRng_chg _ _ _ _
  have hcF2 : Chg [x.nb] w1 w2 := hcF.nil_trans hc2
  have hN2 := hc2.at hN2 (by simp)
  generalize hW3 : World.alloc w2 _ = w3
  have hc3 : Chg [x.nb] w1 w3 := by rw [← hW3]; exact hcF2.alloc _
  have hB3 := hc3.at hB1 (by simpa using hea.2.2.2.2.1.symm)
  have hC3 := hc3.at hC1 (by simpa using hea.1)
  have hM3 := hM1.chg hc3 (by simpa using hea.2.2.2.2.2.1.symm)
  have hN3 : w3.heap[x.nb]? = some (.cells (cur5.toList.take (qa s.log p * 33) ++ (nodeOf zeroHash false).toList ++ cur5.toList.drop (qa s.log p * 33 + 33)).toArray 87 (0, 0)) := by rw [← hW3]; exact blk_alloc hN2 _
  have hk3 : w3.cell? ⟨w2.heap.size, 0, none⟩ = some (.int .u64 (qk s.log p)) := by rw [← hW3]; simp
  have hcw : Chg [x.nb] w w3 := (hc1.of_nil).trans hc3 (by simp)
  have hl3 : ∀ n, (Instr.lookup 77 (.map (some s.cm)) (.agg #[.int .u64 (qk s.log p)]) false).run Try.prog (w3.drewN n) = .ok (.pointer (some ⟨x.c, 0, none⟩)) (w3.drewN n) := by
    intro n
    have := (hM3.chg ((Chg.refl [] w3).drewN n) (by simp)).look encK_law u_mapc z_pchunk (qk s.log p) false
    rw [mget_map] at this
    have e : (s.cks.find? fun x => decide (x.k = qk s.log p)) = some x := HLK.out
    rw [e] at this
    exact this
  have hkb : b < w2.heap.size := by have := hcF2.size; have := hc1.size; omega
  have hkc : x.c < w2.heap.size := by have := hcF2.size; have := hc1.size; omega
  clear hW3 hB1 hC1 hN1 hM1 hN2 hc2 hcF hcF2 hmay1 hmay hc3 hc1
  have hb3 : w3.cell? ⟨b, 3, none⟩ = some (.map (some s.cm)) := blk_cell hB3 3 rfl
  go_quiet (fail)
  clear hl3
  generalize hW4 : World.drewN w3 _ = w4
  have hB4 : w4.heap[b]? = some (.cells #[.int .i64 s.log, .int .u64 s.n, .int .u64 s.alive, .map (some s.cm), .map (some s.pm)] 80 (0, 0)) := by rw [← hW4]; exact hB3
  have hC4 : w4.heap[x.c]? = some (.cells #[.slice (some ⟨x.nb, 0, none⟩) x.ns.length x.cap, .int .i64 (liveOf x.ns)] 110 (0, 0)) := by rw [← hW4]; exact hC3
  have hN4 : w4.heap[x.nb]? = some (.cells (cur5.toList.take (qa s.log p * 33) ++ (nodeOf zeroHash false).toList ++ cur5.toList.drop (qa s.log p * 33 + 33)).toArray 87 (0, 0)) := by rw [← hW4]; exact hN3
  have hM4 : MapIs encK w4 s.cm (s.cks.map fun x => (x.k, .pointer (some ⟨x.c, 0, none⟩))) := by rw [← hW4]; exact hM3.chg ((Chg.refl [] w3).drewN _) (by simp)
  have hk4 : w4.cell? ⟨w2.heap.size, 0, none⟩ = some (.int .u64 (qk s.log p)) := by rw [← hW4]; exact hk3
  have hcw4 : Chg [x.nb] w w4 := by rw [← hW4]; exact hcw.drewN _
  clear hW4 hB3 hC3 hN3 hM3 hk3 hb3 hcw
  have hc40 : w4.cell? ⟨x.c, 1, none⟩ = some (.int .i64 (liveOf x.ns)) := blk_cell hC4 1 rfl
  have hc4f := blk_frozen hC4 1
  have hb42 : w4.cell? ⟨b, 2, none⟩ = some (.int .u64 s.alive) := blk_cell hB4 2 rfl
  have hb43 : w4.cell? ⟨b, 3, none⟩ = some (.map (some s.cm)) := blk_cell hB4 3 rfl
  have hb4f := blk_frozen hB4 2
  have hcb : ¬ x.c = b := hea.2.1
  have hcb' : ¬ b = x.c := fun e => hcb e.symm
  have hkb' : ¬ w2.heap.size = b := by omega
  have hkc' : ¬ w2.heap.size = x.c := by omega
  by_cases h1 : liveOf x.ns = 1
  · have hone : (liveOf x.ns : Int) = 1 := by omega
    have H1 := Lib.hid h1
    rw [hone] at hc40
    clear hone h1
    go_wp2
    generalize hW5 : World.setCell _ _ _ = w5
    have hc45 : Chg [b, x.c] w4 w5 := by rw [← hW5]; exact ((Chg.refl _ _).setCell (by simp) _).setCell (by simp) _
    have hcw5 : Chg [b, x.c, x.nb] w w5 := (hcw4.mono (by intro k hk _; simp at hk; simp [hk])).trans hc45 (by intro k hk; simp at hk; left; rcases hk with q | q <;> simp [q])
    have hB5 : w5.heap[b]? = some (.cells #[.int .i64 s.log, .int .u64 s.n, .int .u64 (s.alive - 1), .map (some s.cm), .map (some s.pm)] 80 (0, 0)) := by
      rw [← hW5]; exact blk_set (blk_far hB4 (by exact hcb') _) 2 _
    have hM5 := hM4.chg hc45 (by simp only [List.mem_cons, List.not_mem_nil, or_false, not_or]; exact ⟨hap.head.1.symm, hea.2.2.1.symm⟩)
    have hk5 : w5.cell? ⟨w2.heap.size, 0, none⟩ = some (.int .u64 (qk s.log p)) := by rw [hc45.cell (p := ⟨w2.heap.size, 0, none⟩) (World.block_lt_of_cell? _ _ hk4) (by simp only [List.mem_cons, List.not_mem_nil, or_false, not_or]; exact ⟨hkb', hkc'⟩)]; exact hk4
    have hb53 : w5.cell? ⟨b, 3, none⟩ = some (.map (some s.cm)) := blk_cell hB5 3 rfl
    obtain ⟨o, hd0, hM6⟩ := (hM5.chg ((Chg.refl [] w5).drew) (by simp)).del encK_law u_mapc (qk s.log p) 0
    have hd : ∀ ty, (deX #[77, 102] ty #[.map (some s.cm), .agg #[.int .u64 (qk s.log p)]]).run Try.prog w5.drew = .ok (.tuple #[]) (setMap w5.drew s.cm o) := fun ty => hd0
    clear hd0 hW5 hM5 hc45 hk4 hb42 hb43 hc40 hc4f hb4f hB4 hC4 hN4 hM4 hcw4
    go_region
    go_wp2
    go_ret
    refine ⟨rfl, ?_⟩
    obtain ⟨l1, l2, hsp, _⟩ := find_split HLK.out
    have hin : ∀ y ∈ l1 ++ l2, y ∈ s.cks := by intro y hy; rw [hsp]; rcases List.mem_append.1 hy with q | q <;> simp [q]
    have hnd : (s.cks.map (·.k)).Nodup := by
      obtain ⟨_, _, _, _, hn, _⟩ := hst.2.1
      rw [List.map_map] at hn
      exact hn
    have htw := hap.two
    rw [hsp] at hnd htw
    have hne : ∀ y ∈ l1 ++ l2, y.k ≠ qk s.log p ∧ (x.c ≠ y.c ∧ x.c ≠ y.nb ∧ x.nb ≠ y.c ∧ x.nb ≠ y.nb) := by
      rw [← HXK.out]
      rw [List.map_append, List.map_cons, List.nodup_append, List.nodup_cons] at hnd
      rw [List.pairwise_append, List.pairwise_cons] at htw
      intro y hy
      rcases List.mem_append.1 hy with hy | hy
      · have := htw.2.2 y hy x (by simp)
        exact ⟨fun e => hnd.2.2 y.k (List.mem_map.2 ⟨y, hy, rfl⟩) x.k (by simp) e, this.1.symm, this.2.2.1.symm, this.2.1.symm, this.2.2.2.symm⟩
      · exact ⟨fun e => hnd.2.1.1 (by rw [← e]; exact List.mem_map.2 ⟨y, hy, rfl⟩), htw.2.1.1 y hy⟩
    refine del_close (F := [b, x.c, x.nb, s.cm]) hst HLK.out HXN.out H1.out hsp (fun y hy => (hne y hy).1) (((hcw5.mono (by intro k hk _; simp at hk; simp; rcases hk with q | q | q <;> simp [q])).drew).trans (setMap_chg _ _ _) (by simp)) ?_ ?_ ?_ ?_ ?_
    · intro k hk
      simp at hk
      left
      rcases hk with rfl | rfl | rfl | rfl
      · simp [SS.foot]
      · exact hfx.1
      · exact hfx.2
      · simp [SS.foot]
    · intro y hy
      have h1 := (hne y hy).2
      have h2 := hap.each y (hin y hy)
      simp only [List.mem_cons, List.not_mem_nil, or_false, not_or]
      exact ⟨⟨h2.2.1, h1.1.symm, h1.2.2.1.symm, h2.2.2.1⟩, h2.2.2.2.2.1, h1.2.1.symm, h1.2.2.2.symm, h2.2.2.2.2.2.1⟩
    · simp only [List.mem_cons, List.not_mem_nil, or_false, not_or]
      exact ⟨hap.head.2.1.symm, hea.2.2.2.1.symm, hea.2.2.2.2.2.2.symm, hap.head.2.2.symm⟩
    · have e : ((s.alive - 1 : Nat) : Int) = (s.alive : Int) - 1 := by omega
      rw [e]
      exact (setMap_chg _ _ _).at hB5 (by simpa using hap.head.1)
    · have e : mdel (s.cks.map fun x => (x.k, Value.pointer (some ⟨x.c, 0, none⟩))) (qk s.log p) = (l1 ++ l2).map fun x => (x.k, Value.pointer (some ⟨x.c, 0, none⟩)) := by
        have e2 : s.cks.filter (fun y => decide (y.k ≠ qk s.log p)) = l1 ++ l2 := by
          rw [hsp, List.filter_append, List.filter_cons_of_neg (by simp [HXK.out]), List.filter_eq_self.2 (fun y hy => by simpa using (hne y (by simp [hy])).1), List.filter_eq_self.2 (fun y hy => by simpa using (hne y (by simp [hy])).1)]
        unfold mdel
        rw [List.filter_map]
        exact congrArg (List.map fun x : Ck => (x.k, Value.pointer (some ⟨x.c, 0, none⟩))) e2
      rw [e] at hM6
      exact hM6
  · have hne0 : ((liveOf x.ns : Int) - 1 == 0) = false := by simp; omega
    go_wp2
    go_ret
    refine ⟨rfl, ?_⟩
    obtain ⟨l1, l2, hsp, _⟩ := find_split HLK.out
    have hin : ∀ y ∈ l1 ++ l2, y ∈ s.cks := by intro y hy; rw [hsp]; rcases List.mem_append.1 hy with q | q <;> simp [q]
    have hnd : (s.cks.map (·.k)).Nodup := by
      obtain ⟨_, _, _, _, hn, _⟩ := hst.2.1
      rw [List.map_map] at hn
      exact hn
    have htw := hap.two
    rw [hsp] at hnd htw
    have hne : ∀ y ∈ l1 ++ l2, y.k ≠ qk s.log p ∧ (x.c ≠ y.c ∧ x.c ≠ y.nb ∧ x.nb ≠ y.c ∧ x.nb ≠ y.nb) := by
      rw [← HXK.out]
      rw [List.map_append, List.map_cons, List.nodup_append, List.nodup_cons] at hnd
      rw [List.pairwise_append, List.pairwise_cons] at htw
      intro y hy
      rcases List.mem_append.1 hy with hy | hy
      · have := htw.2.2 y hy x (by simp)
        exact ⟨fun e => hnd.2.2 y.k (List.mem_map.2 ⟨y, hy, rfl⟩) x.k (by simp) e, this.1.symm, this.2.2.1.symm, this.2.1.symm, this.2.2.2.symm⟩
      · exact ⟨fun e => hnd.2.1.1 (by rw [← e]; exact List.mem_map.2 ⟨y, hy, rfl⟩), htw.2.1.1 y hy⟩
    have hW : Chg [b, x.c, x.nb] w ((w4.setCell ⟨x.c, 1, none⟩ (.int .i64 (liveOf x.ns - 1))).setCell ⟨b, 2, none⟩ (.int .u64 (s.alive - 1))) :=
      ((hcw4.mono (by intro k hk _; simp at hk; simp [hk])).setCell (by simp) _).setCell (by simp) _
    have hlv := hlive.out
    have e0 : ((s.alive - 1 : Nat) : Int) = (s.alive : Int) - 1 := by omega
    have hsum : (((l1 ++ (⟨qk s.log p, x.c, x.nb, x.cap, x.ns.set (qa s.log p) none⟩ : Ck) :: l2)).map fun x => liveOf x.ns).sum = s.alive - 1 := by
      unfold SS.alive
      rw [hsp]
      simp
      omega
    refine put_close (X := some x) (F := [b, x.c, x.nb]) hst hp (hst.2.2.2.2.2.top p (by unfold SS.node; rw [HLK.out]; simp [HXN.out])) (by simpa using (hst.2.2.2.2.2.key x hx).1) (by omega) (fun i => set_get x.ns _ i hatl) hsum (by omega) (fun y hy => by simp at hy; subst hy; exact ⟨HXK.out, rfl⟩) (by simp) (by rw [hsp]; simp) (fun y hy => (hne y hy).1) hW ?_ ?_ ?_ ?_ ?_ ?_ hea.1 ?_ ⟨.inl hfx.1, .inl hfx.2⟩
    · intro k hk
      simp at hk
      left
      rcases hk with rfl | rfl | rfl
      · simp [SS.foot]
      · exact hfx.1
      · exact hfx.2
    · intro y hy
      have h1 := (hne y hy).2
      have h2 := hap.each y (hin y hy)
      simp only [List.mem_cons, List.not_mem_nil, or_false, not_or]
      exact ⟨⟨h2.2.1, h1.1.symm, h1.2.2.1.symm⟩, h2.2.2.2.2.1, h1.2.1.symm, h1.2.2.2.symm⟩
    · simp only [List.mem_cons, List.not_mem_nil, or_false, not_or]
      exact ⟨hap.head.2.1.symm, hea.2.2.2.1.symm, hea.2.2.2.2.2.2.symm⟩
    · rw [e0]
      exact blk_set (blk_far hB4 (by exact hcb') _) 2 _
    · have h1 := hst.2.1.chg hW (by simp only [List.mem_cons, List.not_mem_nil, or_false, not_or]; exact ⟨hap.head.1.symm, hea.2.2.1.symm, hea.2.2.2.2.2.1.symm⟩)
      have e : (s.cks.map fun x => (x.k, Value.pointer (some ⟨x.c, 0, none⟩))) = ((l1 ++ (⟨qk s.log p, x.c, x.nb, x.cap, x.ns.set (qa s.log p) none⟩ : Ck) :: l2).map fun x => (x.k, Value.pointer (some ⟨x.c, 0, none⟩))) := by
        rw [hsp]
        simp [HXK.out]
      rw [e] at h1
      exact h1
    · exact kill_ck (blk_far (blk_set hC4 1 _) (by exact hcb) _) (by omega) (blk_far (blk_far hN4 (by exact hea.1.symm) _) (by exact hea.2.2.2.2.1) _) hn5 hm5 HS5.out HT5.out hI hatl
    · refine ⟨⟨hea.2.1, hea.2.2.2.2.1⟩, ⟨hea.2.2.1, hea.2.2.2.2.2.1⟩, ⟨hea.2.2.2.1, hea.2.2.2.2.2.2⟩, ?_⟩
      intro y hy
      have h1 := (hne y hy).2
      exact ⟨⟨h1.1, h1.2.2.1⟩, h1.2.1, h1.2.2.2⟩
end Go.Proofs.Ytonppfebmeehcaa
