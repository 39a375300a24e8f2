/- The store's Cut walked. -/
import Derived.Test.YtonppfebmeehcaaStS
namespace Go.Proofs.Ytonppfebmeehcaa
open Go.RowKit Go.Shelf
set_option linter.unusedVariables false
set_option linter.unusedSimpArgs false
attribute [local go_sem] Oper.semAt_some
attribute [local go_sem ↓] hold_apU

/-- What a cut leaves. -/
structure CutRel (s s' : SS) (k : Nat) (gl : List Nat) : Prop where
  log : s'.log = s.log
  n : s'.n = k
  pins : s'.pins = s.pins
  alive : s'.alive + gl.length = s.alive
  node : ∀ q, s'.node q = if q < k then s.node q else none
def CutP (w : World) (b : Nat) (s : SS) (n : Nat) (e : Ending) (w' : World) : Prop :=
  (s.n < n ∧ e = .returned (.int .i64 31) ∧ Chg [] w w') ∨ (n ≤ s.n ∧ (∃ p, n ≤ p ∧ 0 < s.pin p) ∧ e = .returned (.int .i64 51) ∧ Chg [] w w') ∨
  (n ≤ s.n ∧ (∀ p, n ≤ p → s.pin p = 0) ∧ e = .returned (.int .i64 0) ∧ ∃ s' gl, StIs w' b s' ∧ CutRel s s' n gl ∧ Mv (s.foot b) (s'.foot b) w w' ∧ gl.Nodup ∧ ∀ q, q ∈ gl ↔ (s.node q).isSome = true ∧ n ≤ q)
theorem StIs.low {w : World} {b : Nat} {s : SS} (hst : StIs w b s) (n : Nat) (h1 : n ≤ s.n) (h2 : ∀ q, (s.node q).isSome = true → q < n) : StIs (w.setCell ⟨b, 1, none⟩ (.int .u64 n)) b { s with n := n } := by
  obtain ⟨hb, hm, hp, hc, ha, ho⟩ := hst
  have hch : Chg [b] w (w.setCell ⟨b, 1, none⟩ (.int .u64 n)) := (Chg.refl _ _).setCell (by simp) _
  refine ⟨blk_set hb 1 _, hm.chg hch (by simpa using ha.head.1.symm), hp.chg hch (by simpa using ha.head.2.1.symm), ?_, ⟨ha.head, ha.each, ha.two⟩, ⟨ho.log, Nat.lt_of_le_of_lt h1 ho.n, ho.key, ho.pin, h2, ho.al⟩⟩
  intro x hx
  have := ha.each x hx
  exact (hc x hx).chg hch (by simpa using this.2.1) (by simpa using this.2.2.2.2.1)

set_option maxRecDepth 100000 in
set_option maxHeartbeats 4000000 in
theorem cut_calls (b : Nat) (s : SS) (w : World) (hst : StIs w b s) (n : Nat) (hn : n < 18446744073709551616) :
    Calls Try.prog 32 #[.pointer (some ⟨b, 0, none⟩), .int .u64 n] w (CutP w b s n) := by
  refine callsIn_wide (n := 0).1 ?_
  refine callsIn_of_wp_marks Try.func32 rfl trivial ?_ rfl
  simp only [Try.ntmps32, List.size_toArray, List.length_cons, List.length_nil, Nat.reduceAdd, Nat.reduceSub, Array.replicate_succ, Array.replicate_zero, List.push_toArray, List.append_toArray, List.nil_append, List.cons_append]
  gi_wp2
  have hcw : Chg [] w (w.alloc (.cells #[.int .u64 (n : Nat)] 31)) := (Chg.refl _ _).alloc _
  have hb3 := blk_new w (.cells #[.int .u64 (n : Nat)] 31)
  have hs3 : (w.alloc (.cells #[.int .u64 (n : Nat)] 31)).heap.size = w.heap.size + 1 := by simp
  generalize w.alloc (.cells #[.int .u64 (n : Nat)] 31) = w3 at *
  have hst3 := hst.chg0 hcw
  have q1 : w3.cell? ⟨w.heap.size, 0, none⟩ = some (.int .u64 (n : Nat)) := blk_cell hb3 0 rfl
  have q2 := hst3.cell1
  by_cases hbig : s.n < n
  · gi_quiet (fail)
    gi_wp2
    refine ⟨_, results_tmp rfl _ _ _, .inl ⟨hbig, rfl, hcw.drewN _⟩⟩
  · have hle : n ≤ s.n := by omega
    have hdec : decide (s.n < n) = false := by simp; omega
    clear hbig
    gi_quiet (fail)
    have hcq := hcw.drewN nq
    have hbq : (w3.drewN nq).heap[w.heap.size]? = some (.cells #[.int .u64 (n : Nat)] 31 (0, 0)) := hb3
    have hsq : (w3.drewN nq).heap.size = w.heap.size + 1 := hs3
    generalize w3.drewN nq = w4 at *
    clear q1 q2 hst3 hb3 hcw hs3
    have hst4 := hst.chg0 hcq
    have q1 := hst4.cell4
    have hpm := hst4.2.2.1
    gi_wp2_with (first
      | (gi_at_range; refine wpIn_mrange _ rfl _ rfl u_mapp rfl hpm ?_; intro w5 hrg0 hc5 hs5)
      | gi_in)
    go_frame
    rw [hsq] at hrg0 ⊢
    have hc05 := hcq.nil_trans hc5
    have hb5 := hc5.at hbq (by simp)
    have hfl := hst.lt
    have hpml := hpm.lt
    have hpins : ∀ p, 0 < s.pin p ↔ p ∈ (pv s.pins).map (·.1) := by
      intro p
      constructor
      · intro h
        obtain ⟨c, hc⟩ := pin_pos hst.2.2.2.2.2 p h
        exact List.mem_map.2 ⟨(p, .int .i64 c), List.mem_map.2 ⟨_, hc, rfl⟩, rfl⟩
      · intro h
        obtain ⟨⟨k, v⟩, hk, rfl⟩ := List.mem_map.1 h
        have hl := lookp hst4 k
        have hl2 := hpm.look (P := Try.prog) encU_law u_mapp z_int k false
        have hg := mget_of_mem hpm.keys hk
        obtain ⟨⟨k2, c⟩, hc, e⟩ := List.mem_map.1 hk
        injection e with e1 e2
        subst e1 e2
        have hg2 : mget (s.pins.map fun x => (x.1, Value.int .i64 (x.2 : Nat))) k2 = some (.int .i64 (c : Nat)) := hg
        rw [hg2] at hl2
        unfold encU at hl2
        rw [hl] at hl2
        simp at hl2
        have := (hst.2.2.2.2.2.pin _ hc).1
        simp only at this
        simp only
        omega
    gi_loopw [4, 5] (fun _ _ wr => ∃ pre cnt, RngIs encU wr s.pm (w.heap.size + 1) (pv s.pins) pre cnt ∧ (∀ p ∈ pre, p < n) ∧ Chg [] w wr ∧ wr.heap[w.heap.size]? = some (.cells #[.int .u64 (n : Nat)] 31 (0, 0)) ∧ wr.heap.size = w.heap.size + 2)
      (fun _ _ wr => rngLeft wr s.pm (w.heap.size + 1))
    case atStart => exact ⟨[], _, hrg0, by simp, hc05, hb5, by omega⟩
    case round =>
      obtain ⟨pre, cnt, hrg, hpre, hcr, hbr, hsr⟩ := hrel
      gi_wp2_with (first
        | (gi_at_next; refine wpIn_mnext _ rfl _ rfl encU_law rfl hrg ?_ ?_)
        | gi_in)
      · intro hc0 hp
        have hnone : ∀ p, n ≤ p → s.pin p = 0 := by
          intro p hp2
          cases hq : s.pin p with
          | zero => rfl
          | succ c =>
            have := hpre p (hp.mem_iff.2 ((hpins p).1 (by omega)))
            omega
        have q3 : wr.cell? ⟨w.heap.size, 0, none⟩ = some (.int .u64 (n : Nat)) := blk_cell hbr 0 rfl
        gi_wp2_with (refine ⟨trivial, rfl, ?_⟩; gi_at_call 45; refine (callsIn_wide.2 (all_calls _ _)).mono ?_; rintro e w1 ⟨rfl, rfl⟩)
        have hcx : Chg [] wr ((wr.alloc (.cells #[.slice none 0 0] 36)).alloc (.cells #[.pointer (some ⟨b, 0, none⟩)] 49)) := ((Chg.refl _ _).alloc _).alloc _
        have hbg := blk_alloc (blk_new wr (.cells #[.slice none 0 0] 36)) (.cells #[.pointer (some ⟨b, 0, none⟩)] 49)
        have hba := blk_new (wr.alloc (.cells #[.slice none 0 0] 36)) (.cells #[.pointer (some ⟨b, 0, none⟩)] 49)
        have hs1 : ((wr.alloc (.cells #[.slice none 0 0] 36)).alloc (.cells #[.pointer (some ⟨b, 0, none⟩)] 49)).heap.size = w.heap.size + 4 := by simp [hsr]
        rw [World.size_alloc, hsr] at hba
        rw [hsr] at hbg
        have hb31 := hcx.at hbr (by simp)
        have hc1 := hcr.nil_trans hcx
        generalize (wr.alloc (.cells #[.slice none 0 0] 36)).alloc (.cells #[.pointer (some ⟨b, 0, none⟩)] 49) = w1 at *
        have hst1 := hst.chg0 hc1
        clear hrg hpre hcr hbr hsr q3 hcx hp hpm hc5 hb5 hcq hbq hst4 hrg0 hc05 q1
        refine wpIn_range (gf := 66) (lb := #[.pointer (some ⟨w.heap.size + 2 + 1, 0, none⟩)]) rfl (enters_of Try.func66 (by kernel_rfl) rfl) (all_seq (w.heap.size + 2 + 1) b s w1 hba hst1) (Chg.refl _ _) (fun _ => rfl)
          (GoneI w1 (w.heap.size + 2) (fun p => decide (n ≤ p))) (fun _ _ _ _ => False) [w.heap.size + 2] (fun k hk => by simp at hk; subst hk; exact ⟨by omega, fun h => by
            rcases List.mem_cons.1 h with e | e
            · omega
            · have := hfl _ e; omega⟩) (fun k hk => by
            rcases List.mem_cons.1 hk with e | e
            · omega
            · have := hfl _ e; omega)
          (GoneI.stays _ _ _) (fun c pre D W W' F h => h.elim) ⟨_, rfl, hbg, UOwn.nil _ _, by simp [ob_nil], Chg.refl _ _⟩
          (GoneA w1 (w.heap.size + 2) (fun p => decide (n ≤ p)) (fun x => { tmps := #[.pointer (some ⟨b, 0, none⟩), .int .u64 ((n : Nat) : Int), undef, .pointer (some ⟨w.heap.size, 0, none⟩), u4, u5, .pointer (some ⟨w.heap.size + 2, 0, none⟩), .int .u64 ((x.1 : Nat) : Int), undef, undef, .int .u64 ((n : Nat) : Int), .pointer (some ⟨b, 0, none⟩), .pointer (some ⟨b, 0, none⟩), .pointer (some ⟨b, 1, none⟩), .int .u64 ((s.n : Nat) : Int), .bool false, .pointer (some ⟨b, 0, none⟩), .pointer (some ⟨b, 0, none⟩), .pointer (some ⟨b, 4, none⟩), .map (some s.pm), .pointer (some ⟨w.heap.size + 1, 0, none⟩), .tuple #[.bool false], .bool false, u23, u24, u25, u26, u27, .pointer (some ⟨b, 0, none⟩), .func (.func 66) #[] #[.pointer (some ⟨w.heap.size + 2 + 1, 0, none⟩)], .int .u64 ((x.1 : Nat) : Int), .agg x.2, undef, undef, undef, undef, undef, undef, undef, undef, undef, undef, undef, undef, undef, undef, undef, undef, undef, undef, undef, undef, undef], defers := [] }))
          (fun x a' => GoneA.stays _ _ _ _ x a') ?assign ?body ?done ?stop
        case assign =>
          rintro l pre x W D1 K hi hd hsp hK
          gi_wp2
          exact hK _ _ D1 (fun k hk => ⟨hd k hk, .inl hk⟩) (Chg.refl _ _) ⟨rfl, hi⟩
        case body =>
          rintro l pre x a' W D1 ⟨rfl, v, rfl, hb, ho, hnb, hc⟩ hd hsp
          have q3 : W.cell? ⟨w.heap.size, 0, none⟩ = some (.int .u64 (n : Nat)) := blk_cell (hc.at hb31 (by simp)) 0 rfl
          have q6 : W.cell? ⟨w.heap.size + 2, 0, none⟩ = some v := blk_cell hb 0 rfl
          have hlp := hsp.len
          have hal := hst1.2.2.2.2.2.al
          have hW := hc.size
          have hbl := blk_lt hb
          have hfm : ∀ (b : Bool), decide (n ≤ x.1) = b → ((pre ++ [x]).map (·.1)).filter (fun p => decide (n ≤ p)) = (pre.map (·.1)).filter (fun p => decide (n ≤ p)) ++ (if b then [x.1] else []) := by
            intro b hb
            rw [List.map_append, List.filter_append]
            simp only [List.map_cons, List.map_nil, List.filter_cons, hb, List.filter_nil]
          by_cases c1 : n ≤ x.1
          · have hfl2 := hfm true (by simp [c1])
            obtain ⟨v2, W2, hrun, hO2, hc2, hob⟩ := ho.push x.1 (by have := List.length_filter_le (fun p => decide (n ≤ p)) (pre.map (·.1)); simp at this hlp; omega) hW 36
            have hrun : (apU #[36, 36] 36 #[v, .slice (some ⟨W.heap.size, 0, none⟩) 1 1]).run Try.prog (W.alloc (.cells #[.int .u64 (x.1 : Nat)] 31)) = .ok v2 W2 := hrun
            obtain ⟨a2, cap2, hv2⟩ := hO2.shape
            have HFL := Lib.hid hfl2
            have HRUN := Lib.hid hrun
            clear hfl2 hfm hrun
            subst hv2
            have hb2 := hc2.at hb hnb
            have q7 := blk_frozen hb2 0
            have q8 : W2.cell? ⟨w.heap.size + 2, 0, none⟩ = some v := blk_cell hb2 0 rfl
            have hrun := HRUN.out
            clear HRUN
            generalize hll : ((pre.map (·.1)).filter (fun p => decide (n ≤ p)) ++ [x.1]).length = n2 at *
            have HLL := Lib.hid hll
            clear hll
            gi_wp2
            have hn2 := HLL.out
            subst hn2
            exact GoneI.push hnb hc hbl (fun k hk => (own_lt ho k hk).1) hO2 hc2 hob hb2 (by rw [HFL.out]; simp)
          · have HFL := Lib.hid (hfm false (by simp [c1]))
            have c3 : x.1 < n := by omega
            clear hfm
            gi_wp2
            exact ⟨(w.heap.size + 2) :: ob v, fun k hk => ⟨hd k hk, .inl hk⟩, Chg.refl _ _, v, rfl, hb, by rw [HFL.out]; simpa using ho, hnb, hc⟩
        case done =>
          rintro D xs D1 W hD hDn hS ⟨v, rfl, hb, ho, hnb, hc⟩ hK
          have hst2 := hst1.chg hc (fun k hk => by have := hfl k hk; simp; omega)
          have q6 : W.cell? ⟨w.heap.size + 2, 0, none⟩ = some v := blk_cell hb 0 rfl
          have q3 := hc.at hb31 (by simp)
          have hgl : ∀ q, q ∈ (xs.map (·.1)).filter (fun p => decide (n ≤ p)) ↔ (s.node q).isSome = true ∧ n ≤ q := by
            intro q
            rw [List.mem_filter, decide_eq_true_iff]
            refine and_congr_left (fun _ => ?_)
            constructor
            · intro hm
              obtain ⟨⟨p, h⟩, hp, rfl⟩ := List.mem_map.1 hm
              rw [(hS.mem p h).1 hp]; rfl
            · intro hm
              obtain ⟨h, hh⟩ := Option.isSome_iff_exists.1 hm
              exact List.mem_map.2 ⟨(q, h), (hS.mem q h).2 hh, rfl⟩
          have hnd : ((xs.map (·.1)).filter (fun p => decide (n ≤ p))).Nodup := (hS.up.imp (fun h => by omega)).filter _
          have hlen : ((xs.map (·.1)).filter (fun p => decide (n ≤ p))).length ≤ 1099511627776 := by
            have h1 := List.length_filter_le (fun p => decide (n ≤ p)) (xs.map (·.1))
            rw [List.length_map, hS.len] at h1
            have := hst1.2.2.2.2.2.al
            omega
          have hWz := hc.size
          have htop := hst1.2.2.2.2.2.top
          have hn64 := hst1.2.2.2.2.2.n
          generalize (xs.map (·.1)).filter (fun p => decide (n ≤ p)) = gl at *
          clear hS hbg hba
          obtain ⟨a, cap2, rfl⟩ := ho.shape
          gi_wp2
          gi_loopw [9, 41] (fun _ i wr => ∃ k : Nat, k ≤ gl.length ∧ i = .int .i64 k ∧ KillsInv W b s (gl.take k) wr)
            (fun _ i _ => gl.length - (intOf i).toNat)
          case atStart => exact ⟨0, Nat.zero_le _, rfl, KillsInv.nil hst2⟩
          case round =>
            obtain ⟨k, hkk2, rfl, s1, hst3, hrl, hmv⟩ := hrel
            have p1 : wr.cell? ⟨w.heap.size, 0, none⟩ = some (.int .u64 (n : Nat)) := blk_cell (hmv.1.at q3 (fun h => by have := hfl _ h; omega)) 0 rfl
            have p2 : wr.cell? ⟨w.heap.size + 2, 0, none⟩ = some (.slice a gl.length cap2) := blk_cell (hmv.1.at hb (fun h => by have := hfl _ h; omega)) 0 rfl
            have hor : UOwn wr w1.heap.size (.slice a gl.length cap2) gl := own_chg ho hmv.1 (fun k hk h => by have := (own_lt ho k hk).1; have := hfl _ h; omega)
            by_cases hlk : k < gl.length
            · obtain ⟨g, rfl, hcell⟩ := hor.cell hlk
              obtain ⟨hls, hgo⟩ := (hgl gl[k]).1 (List.getElem_mem hlk)
              obtain ⟨hh, hnode⟩ := Option.isSome_iff_exists.1 hls
              have hnk : gl[k] ∉ gl.take k := by
                intro hm
                obtain ⟨i, hi, e⟩ := List.mem_iff_getElem.1 hm
                simp only [List.length_take] at hi
                rw [List.getElem_take] at e
                have := (List.getElem_inj hnd).1 e
                omega
              have hnode1 : s1.node gl[k] = some hh := by rw [hrl.node, if_neg hnk]; exact hnode
              have hkc := kill_live b gl[k] s1 wr hst3 (by have := htop gl[k] hls; omega) hnode1
              have HTK := Lib.hid ((List.take_succ_eq_append_getElem hlk).symm)
              have hstep := fun e w' (h : KillPost wr b s1 gl[k] e w') => KillsInv.step hrl hst3 hmv hnode1 h
              clear hnk hnode hls hgo hgl hnd
              generalize gl[k] = p at *
              clear hst3 hrl hmv hor
              gi_wp2_with (refine ⟨trivial, rfl, ?_⟩; gi_at_call 46; refine (callsIn_wide.2 hkc).mono ?_; rintro e w5 hkp; obtain rfl : e = .returned (.bool true) := hkp.1; have hkp2 := hstep _ _ hkp; rw [HTK.out] at hkp2)
              go_roundw
              case rel => exact ⟨k + 1, by omega, by go_num, hkp2⟩
              case measure => simp [intOf]; omega
            · have hkg : k = gl.length := by omega
              subst hkg
              rw [List.take_length] at hrl
              have hsb := hst3.blt
              have hsf := blk_frozen hst3.1 1
              have hsc := hst3.cell1
              gi_wp2
              have hKr : wr.heap[D]? = some (.deferred (some [])) := hmv.1.at hK (fun h => by have := hfl _ h; omega)
              have hDb : D ≠ b := fun e => by have := hfl b (by simp [SS.foot]); omega
              have hKs : (wr.setCell ⟨b, 1, none⟩ (.int .u64 (n : Nat))).heap[D]? = some (.deferred (some [])) := blk_far hKr (by simpa using hDb) _
              have hp : Chg [D] (wr.setCell ⟨b, 1, none⟩ (.int .u64 (n : Nat))) ((wr.setCell ⟨b, 1, none⟩ (.int .u64 (n : Nat))).putObj D (.deferred none)) := chg_put _ _ _
              have hft : ∀ k ∈ s1.foot b, k ∈ s.foot b ∨ w1.heap.size ≤ k := fun k hk => (hmv.2 k hk).imp id (fun q => by omega)
              have hdead : ∀ q, n ≤ q → s1.node q = none := by
                intro q hq
                rw [hrl.node]
                by_cases hm : q ∈ gl
                · rw [if_pos hm]
                · rw [if_neg hm]
                  cases hsq2 : s.node q with
                  | none => rfl
                  | some h => exact absurd ((hgl q).2 ⟨by rw [hsq2]; rfl, hq⟩) hm
              have hst4 := hst3.low n (by rw [hrl.n]; exact hle) (fun q hq => by
                by_cases hnq : n ≤ q
                · rw [hdead q hnq] at hq; cases hq
                · omega)
              have hsc4 : Chg (s.foot b) wr (wr.setCell ⟨b, 1, none⟩ (.int .u64 (n : Nat))) := (Chg.refl _ _).setCell (.inl (by simp [SS.foot])) _
              refine ⟨by simp, .inl ⟨_, _, rfl, run_takeDeferred hKs, ?_⟩⟩
              refine ⟨_, results_tmp rfl _ _ _, .inr (.inr ⟨hle, hnone, rfl, { s1 with n := n }, gl, ?_, ⟨hrl.log, rfl, hrl.pins, hrl.alive, ?_⟩, ⟨?_, ?_⟩, hnd, hgl⟩)⟩
              · refine hst4.chg hp (fun k hk h => ?_)
                simp at h
                subst h
                rcases hmv.2 _ hk with q | q
                · have := hfl _ q; omega
                · have := blk_lt hK; omega
              · intro q
                show s1.node q = _
                by_cases hnq : q < n
                · rw [if_pos hnq, hrl.node, if_neg (fun hm => by have := ((hgl q).1 hm).2; omega)]
                · rw [if_neg hnq]; exact hdead q (by omega)
              · have c1 : Chg (s.foot b) w W := (hc1.of_nil).trans hc (fun x hx => .inr (by simp at hx; omega))
                have c2 := c1.trans hmv.1 (fun x hx => .inl hx)
                have c3 := c2.trans hsc4 (fun x hx => .inl hx)
                exact c3.trans hp (fun x hx => .inr (by simp at hx; have := hc1.size; omega))
              · intro k hk
                exact (hft k hk).imp id (fun q => by have := hc1.size; omega)
        case stop =>
          rintro D c pre D1 W hD hDn hSp h
          exact h.elim
      · intro k v w6 hkv hkp hrg2 hpos hc2 hs2 hen
        have hkm : 0 < s.pin k := (hpins k).2 (List.mem_map.2 ⟨_, hkv, rfl⟩)
        have hc6 : Chg [] w w6 := hcr.trans hc2 (fun x hx => .inr (by simp at hx; omega))
        have hb6 := hc2.at hbr (by simp)
        have q3 : w6.cell? ⟨w.heap.size, 0, none⟩ = some (.int .u64 (n : Nat)) := blk_cell hb6 0 rfl
        have HL := Lib.hid hrg.left
        unfold encU at hen
        clear hrg
        by_cases hkn : n ≤ k
        · gi_wp2
          refine ⟨_, results_tmp rfl _ _ _, .inr (.inl ⟨hle, ⟨k, hkn, hkm⟩, rfl, hc6⟩)⟩
        · have hkn2 : k < n := by omega
          gi_wp2
          go_roundw
          case rel => exact ⟨pre ++ [k], cnt - 1, hrg2, fun p hp => by
            rcases List.mem_append.1 hp with q | q
            · exact hpre p q
            · simp at q; subst q; exact hkn2, hc6, hb6, by omega⟩
          case measure => rw [hrg2.left, HL.out]; omega
end Go.Proofs.Ytonppfebmeehcaa
