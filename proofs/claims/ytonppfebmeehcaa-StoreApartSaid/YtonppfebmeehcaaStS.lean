/- The store's All and Sweep walked. -/
import Derived.Test.YtonppfebmeehcaaItE
import Derived.Test.YtonppfebmeehcaaStSa
import Derived.Test.YtonppfebmeehcaaStI
import Derived.Test.YtonppfebmeehcaaUO
namespace Go.Proofs.Ytonppfebmeehcaa
open Go.RowKit Go.Shelf
set_option linter.unusedVariables false
set_option linter.unusedSimpArgs false
attribute [local go_sem] Oper.semAt_some

theorem all_calls (p : Option Addr) (w : World) : Calls Try.prog 45 #[.pointer p] w fun e w' => e = .returned (.func (.func 66) #[] #[.pointer (some ⟨w.heap.size, 0, none⟩)]) ∧ w' = w.alloc (.cells #[.pointer p] 49) := by
  go_enter Try.func45, Try.ntmps45
  go_wp2
  go_ret
  exact ⟨rfl, rfl⟩
theorem UOwn.shape {w : World} {B : Nat} {v : Value} {l : List Nat} (h : UOwn w B v l) : ∃ a cap, v = .slice a l.length cap := by
  rcases h.2 with ⟨rfl, h0⟩ | ⟨g, cap, cur, rfl, _⟩
  · exact ⟨none, 0, by rw [h0]⟩
  · exact ⟨_, cap, rfl⟩
theorem UOwn.cell {w : World} {B : Nat} {a : Option Addr} {cap : Nat} {l : List Nat} (h : UOwn w B (.slice a l.length cap) l) {i : Nat} (hi : i < l.length) : ∃ g, a = some ⟨g, 0, none⟩ ∧ w.cell? ⟨g, i, none⟩ = some (.int .u64 (l[i] : Nat)) := by
  rcases h.2 with ⟨hv, h0⟩ | ⟨g, cap2, cur, hv, hb, hh, hnc, hm, hcs, ht⟩
  · omega
  · injection hv with ha
    refine ⟨g, ha, blk_cell hh i ?_⟩
    have e : (cur.toList.take (l.length * 1))[i]? = (l.map fun (n : Nat) => Value.int .u64 (n : Int))[i]? := by rw [ht]
    rw [List.getElem?_take_of_lt (by omega), Array.getElem?_toList] at e
    rw [e]
    simp [hi]
def apU (ts : Array TypeId) (ty : TypeId) (xs : Array Value) : Sem Value := Builtin.append_ ts ty xs
theorem hold_apU (ts : Array TypeId) (ty : TypeId) (xs : Array Value) : Builtin.append_ ts ty xs = apU ts ty xs := rfl
attribute [local go_sem ↓] hold_apU
/-- What has been gathered between two rounds of a loop over a store. -/
def GoneI (w1 : World) (Bg : Nat) (f : Nat → Bool) (pre : List (Nat × Array Value)) (D : List Nat) (W : World) : Prop :=
  ∃ v, D = Bg :: ob v ∧ W.heap[Bg]? = some (.cells #[v] 36 (0, 0)) ∧ UOwn W w1.heap.size v ((pre.map (·.1)).filter f) ∧ Bg ∉ ob v ∧ Chg [Bg] w1 W
theorem GoneI.stays (w1 : World) (Bg : Nat) (f : Nat → Bool) : Stays w1.heap.size (GoneI w1 Bg f) := by
  rintro pre D W W' F ⟨v, rfl, hb, ho, hn, hc⟩ hcF hF
  exact ⟨v, rfl, hcF.at hb (fun h => (hF _ h).1 (by simp)), own_chg ho hcF (fun k hk h => (hF _ h).1 (by simp [hk])), hn, hc.trans hcF (fun x hx => .inr (hF x hx).2)⟩
theorem GoneI.push {w1 W W2 : World} {Bg : Nat} {f : Nat → Bool} {pre : List (Nat × Array Value)} {x : Nat × Array Value} {v v2 : Value} {L : List Nat} (hn : Bg ∉ ob v) (hc : Chg [Bg] w1 W) (hBg : Bg < W.heap.size) (hlo : ∀ k ∈ ob v, w1.heap.size ≤ k)
    (hO2 : UOwn W2 w1.heap.size v2 L) (hc2 : Chg (ob v) W W2) (hob : ∀ k ∈ ob v2, k ∈ ob v ∨ W.heap.size ≤ k) (hb2 : W2.heap[Bg]? = some (.cells #[v] 36 (0, 0))) (hFL : ((pre ++ [x]).map (·.1)).filter f = L) :
    ∃ D', Dok (Bg :: ob v) W D' (W2.setCell ⟨Bg, 0, none⟩ v2) ∧ Chg (Bg :: ob v) W (W2.setCell ⟨Bg, 0, none⟩ v2) ∧ GoneI w1 Bg f (pre ++ [x]) D' (W2.setCell ⟨Bg, 0, none⟩ v2) := by
  have hz2 := hc2.size
  have hn2 : Bg ∉ ob v2 := fun h => (hob _ h).elim hn (fun q => by omega)
  have hs3 : Chg [Bg] W2 (W2.setCell ⟨Bg, 0, none⟩ v2) := (Chg.refl _ _).setCell (.inl (by simp)) _
  refine ⟨Bg :: ob v2, ?_, ?_, v2, rfl, blk_set hb2 0 _, ?_, hn2, ?_⟩
  · intro k hk
    rcases List.mem_cons.1 hk with q | hk
    · subst q; exact ⟨by have := hs3.size; omega, .inl (by simp)⟩
    · refine ⟨by have := (own_lt hO2 _ hk).2; have := hs3.size; omega, ?_⟩
      exact (hob k hk).imp (fun q => by simp [q]) id
  · exact (hc2.mono (fun k hk _ => by simp [hk])).trans hs3 (fun k hk => by simp at hk; simp [hk])
  · rw [hFL]; exact own_chg hO2 hs3 (fun k hk h => by simp at h; subst h; exact hn2 hk)
  · exact (hc.trans hc2 (fun k hk => .inr (hlo k hk))).trans hs3 (fun k hk => .inl hk)
def GoneA (w1 : World) (Bg : Nat) (f : Nat → Bool) (a : Nat × Array Value → Act) (x : Nat × Array Value) (a' : Act) (pre : List (Nat × Array Value)) (D : List Nat) (W : World) : Prop := a' = a x ∧ GoneI w1 Bg f pre D W
theorem GoneA.stays (w1 : World) (Bg : Nat) (f : Nat → Bool) (a : Nat × Array Value → Act) (x : Nat × Array Value) (a' : Act) : Stays w1.heap.size (GoneA w1 Bg f a x a') := by
  rintro pre D W W' F ⟨h1, h2⟩ hcF hF
  exact ⟨h1, GoneI.stays w1 Bg f _ _ _ _ _ h2 hcF hF⟩

set_option maxRecDepth 100000 in
set_option maxHeartbeats 4000000 in
theorem sweep_calls (b : Nat) (s : SS) (w : World) (hst : StIs w b s) (keep : List Nat) (A : Option Addr) (cap : Nat) (hk : Rd w 1 A keep.length (keep.map fun (n : Nat) => Value.int .u64 (n : Int))) (hkl : keep.length ≤ 1000000) :
    Calls Try.prog 26 #[.pointer (some ⟨b, 0, none⟩), .slice A keep.length cap] w (SweepP w b s keep) := by
  have hmm := @run_makeMap Try.prog
  refine callsIn_wide (n := 0).1 ?_
  refine callsIn_of_wp_marks Try.func26 rfl trivial ?_ rfl
  simp only [Try.ntmps26, List.size_toArray, List.length_cons, List.length_nil, Nat.reduceAdd, Nat.reduceSub, Array.replicate_succ, Array.replicate_zero, List.push_toArray, List.append_toArray, List.nil_append, List.cons_append]
  gi_wp2
  have hcw : Chg [] w (((w.alloc (.cells #[.pointer (some ⟨b, 0, none⟩)] 49)).alloc (.map #[] 0)).alloc (.cells #[.map (some (w.heap.size + 1))] 78)) := (((Chg.refl _ _).alloc _).alloc _).alloc _
  have hb2 := blk_alloc (blk_alloc (blk_new w (.cells #[.pointer (some ⟨b, 0, none⟩)] 49)) (.map #[] 0)) (.cells #[.map (some (w.heap.size + 1))] 78)
  have hsty := (StayIs.new (w.alloc (.cells #[.pointer (some ⟨b, 0, none⟩)] 49))).chg ((Chg.refl [] _).alloc (.cells #[.map (some (w.heap.size + 1))] 78)) (by simp)
  have hb5 := blk_new ((w.alloc (.cells #[.pointer (some ⟨b, 0, none⟩)] 49)).alloc (.map #[] 0)) (.cells #[.map (some (w.heap.size + 1))] 78)
  rw [World.size_alloc] at hsty
  rw [World.size_alloc, World.size_alloc] at hb5
  have hs3 : (((w.alloc (.cells #[.pointer (some ⟨b, 0, none⟩)] 49)).alloc (.map #[] 0)).alloc (.cells #[.map (some (w.heap.size + 1))] 78)).heap.size = w.heap.size + 3 := by simp
  generalize ((w.alloc (.cells #[.pointer (some ⟨b, 0, none⟩)] 49)).alloc (.map #[] 0)).alloc (.cells #[.map (some (w.heap.size + 1))] 78) = w3 at *
  clear hmm
  gi_loopw [7, 15] (fun _ i wr => ∃ k : Nat, k ≤ keep.length ∧ i = .int .i64 k ∧ StayIs (keep.take k) wr (w.heap.size + 1) ∧ Chg [w.heap.size + 1] w3 wr ∧ wr.heap.size = w.heap.size + 3)
    (fun _ i _ => keep.length - (intOf i).toNat)
  case atStart => exact ⟨0, Nat.zero_le _, rfl, hsty, Chg.refl _ _, hs3⟩
  case round =>
    obtain ⟨k, hkk, rfl, hsy, hcr, hsr⟩ := hrel
    by_cases hlt : k < keep.length
    · obtain ⟨b0, o0, rfl, hcell⟩ := hk.2 (by omega)
      have hck := hcell k (.int .u64 (keep[k] : Nat)) (by simp [hlt])
      have hb0 := World.block_lt_of_cell? _ _ hck
      have q1 : wr.cell? ⟨b0, o0 + k, none⟩ = some (.int .u64 (keep[k] : Nat)) := ((hcr.cell (p := ⟨b0, o0 + k, none⟩) (by rw [hs3]; simp at hb0; simp; omega) (by simp at hb0; simp; omega)).trans (hcw.cell (p := ⟨b0, o0 + k, none⟩) hb0 (by simp))).trans hck
      have q2 : wr.cell? ⟨w.heap.size + 1 + 1, 0, none⟩ = some (.map (some (w.heap.size + 1))) := blk_cell (hcr.at hb5 (by simp)) 0 rfl
      have q3 := hsy.look keep[k]
      obtain ⟨ou, q4, hsy2⟩ := hsy.upd keep[k]
      have hcnt : (keep.take k).count keep[k] ≤ 1000000 := Nat.le_trans List.count_le_length (by simp; omega)
      have htk : keep.take k ++ [keep[k]] = keep.take (k + 1) := (List.take_succ_eq_append_getElem hlt).symm
      rw [htk] at hsy2
      have HT := Lib.hid htk
      clear htk hsy hsty hcell hck hst
      generalize (keep.take k).count keep[k] = c at *
      generalize keep[k] = p at *
      gi_wp2
      go_roundw
      case rel => exact ⟨k + 1, by omega, by go_num, hsy2, hcr.trans (setMap_chg _ _ _) (fun x hx => .inl hx), by simp [setMap, hsr]⟩
      case measure => simp [intOf]; omega
    · have hkk2 : k = keep.length := by omega
      subst hkk2
      rw [List.take_length] at hsy
      have hcwr : Chg [] w wr := hcw.trans hcr (fun x hx => .inr (by simp at hx; omega))
      have q1 : wr.cell? ⟨w.heap.size, 0, none⟩ = some (.pointer (some ⟨b, 0, none⟩)) := blk_cell (hcr.at hb2 (by simp)) 0 rfl
      gi_wp2_with (refine ⟨trivial, rfl, ?_⟩; gi_at_call 45; refine (callsIn_wide.2 (all_calls _ _)).mono ?_; rintro e w1 ⟨rfl, rfl⟩)
      have hcx : Chg [] wr ((wr.alloc (.cells #[.slice none 0 0] 36)).alloc (.cells #[.pointer (some ⟨b, 0, none⟩)] 49)) := ((Chg.refl _ _).alloc _).alloc _
      have hbg := blk_alloc (blk_new wr (.cells #[.slice none 0 0] 36)) (.cells #[.pointer (some ⟨b, 0, none⟩)] 49)
      have hba := blk_new (wr.alloc (.cells #[.slice none 0 0] 36)) (.cells #[.pointer (some ⟨b, 0, none⟩)] 49)
      have hs1 : ((wr.alloc (.cells #[.slice none 0 0] 36)).alloc (.cells #[.pointer (some ⟨b, 0, none⟩)] 49)).heap.size = w.heap.size + 5 := by simp [hsr]
      rw [World.size_alloc, hsr] at hba
      rw [hsr] at hbg
      have hsy1 := hsy.chg hcx (by simp)
      have hb21 := hcx.at (hcr.at hb2 (by simp)) (by simp)
      have hb51 := hcx.at (hcr.at hb5 (by simp)) (by simp)
      have hc1 := hcwr.nil_trans hcx
      generalize (wr.alloc (.cells #[.slice none 0 0] 36)).alloc (.cells #[.pointer (some ⟨b, 0, none⟩)] 49) = w1 at *
      have hst1 := hst.chg0 hc1
      have hfl := hst.lt
      clear hsty hb2 hb5 hcw hs3 hcr hcx hsy hcwr q1 hk
      refine wpIn_range (gf := 66) (lb := #[.pointer (some ⟨w.heap.size + 3 + 1, 0, none⟩)]) rfl (enters_of Try.func66 (by kernel_rfl) rfl) (all_seq (w.heap.size + 3 + 1) b s w1 hba hst1) (Chg.refl _ _) (fun _ => rfl)
        (GoneI w1 (w.heap.size + 3) (goes s keep)) (fun _ _ _ _ => False) [w.heap.size + 3] (fun k hk => by simp at hk; subst hk; exact ⟨by omega, fun h => by
          rcases List.mem_cons.1 h with e | e
          · omega
          · have := hfl _ e; omega⟩) (fun k hk => by
          rcases List.mem_cons.1 hk with e | e
          · omega
          · have := hfl _ e; omega)
        (GoneI.stays _ _ _) (fun c pre D W W' F h => h.elim) ⟨_, rfl, hbg, UOwn.nil _ _, by simp [ob_nil], Chg.refl _ _⟩
        (GoneA w1 (w.heap.size + 3) (goes s keep) (fun x => { tmps := #[.pointer (some ⟨b, 0, none⟩), .slice A keep.length cap, .pointer (some ⟨w.heap.size, 0, none⟩), undef, .int .u64 0, .pointer (some ⟨w.heap.size + 1 + 1, 0, none⟩), undef, u7, .pointer (some ⟨w.heap.size + 3, 0, none⟩), .int .u64 ((x.1 : Nat) : Int), undef, undef, .map (some (w.heap.size + 1)), .slice A keep.length cap, .int .i64 ((keep.length : Nat) : Int), .int .i64 ((keep.length : Nat) : Int), .bool false, u17, u18, u19, u20, u21, u22, u23, .pointer (some ⟨b, 0, none⟩), .func (.func 66) #[] #[.pointer (some ⟨w.heap.size + 3 + 1, 0, none⟩)], .int .u64 ((x.1 : Nat) : Int), .agg x.2, undef, undef, undef, undef, undef, undef, undef, undef, undef, undef, undef, undef, undef, undef, undef, undef, undef, undef, undef, undef, undef, undef, undef, undef, undef, undef, undef, undef, undef, undef], defers := [] }))
        (fun x a' => GoneA.stays _ _ _ _ x a') ?assign ?body ?done ?stop
      case assign =>
        rintro l pre x W D1 K hi hd hsp hK
        gi_wp2
        exact hK _ _ D1 (fun k hk => ⟨hd k hk, .inl hk⟩) (Chg.refl _ _) ⟨rfl, hi⟩
      case body =>
        rintro l pre x a' W D1 ⟨rfl, v, rfl, hb, ho, hn, hc⟩ hd hsp
        have hst2 := hst1.chg hc (fun k hk => by have := hfl k hk; simp; omega)
        have hsy2 := hsy1.chg hc (by simp)
        have q1 : W.cell? ⟨w.heap.size + 1 + 1, 0, none⟩ = some (.map (some (w.heap.size + 1))) := blk_cell (hc.at hb51 (by simp)) 0 rfl
        have q2 := hsy2.look x.1
        have q3 : W.cell? ⟨w.heap.size, 0, none⟩ = some (.pointer (some ⟨b, 0, none⟩)) := blk_cell (hc.at hb21 (by simp)) 0 rfl
        have q4 := hst2.cell4
        have q5 := lookp hst2 x.1
        have q6 : W.cell? ⟨w.heap.size + 3, 0, none⟩ = some v := blk_cell hb 0 rfl
        have hlp := hsp.len
        have hal := hst1.2.2.2.2.2.al
        have hW := hc.size
        have hbl := blk_lt hb
        have hgo : Hid (goes s keep x.1 = (decide (keep.count x.1 = 0) && decide (s.pin x.1 = 0))) := rfl
        have hpin := pin_lt hst1.2.2.2.2.2 x.1
        have hcnt : keep.count x.1 ≤ 1000000 := Nat.le_trans List.count_le_length hkl
        have hfm : ∀ (b : Bool), goes s keep x.1 = b → ((pre ++ [x]).map (·.1)).filter (goes s keep) = (pre.map (·.1)).filter (goes s keep) ++ (if b then [x.1] else []) := by
          intro b hb
          rw [List.map_append, List.filter_append]
          simp only [List.map_cons, List.map_nil, List.filter_cons, hb, List.filter_nil]
        by_cases c1 : keep.count x.1 = 0
        · rw [c1] at q2
          by_cases c2 : s.pin x.1 = 0
          · rw [c2] at q5
            have hg : goes s keep x.1 = true := by unfold goes; simp [c1, c2]
            have hfl2 := hfm true hg
            obtain ⟨v2, W2, hrun, hO2, hc2, hob⟩ := ho.push x.1 (by have := List.length_filter_le (goes s keep) (pre.map (·.1)); simp at this hlp; omega) hW 36
            have hrun : (apU #[36, 36] 36 #[v, .slice (some ⟨W.heap.size, 0, none⟩) 1 1]).run Try.prog (W.alloc (.cells #[.int .u64 (x.1 : Nat)] 31)) = .ok v2 W2 := hrun
            obtain ⟨a2, cap2, hv2⟩ := hO2.shape
            have HFL := Lib.hid hfl2
            have HRUN := Lib.hid hrun
            clear hfl2 hfm hrun
            subst hv2
            have hb2 := hc2.at hb hn
            have q7 := blk_frozen hb2 0
            have q8 : W2.cell? ⟨w.heap.size + 3, 0, none⟩ = some v := blk_cell hb2 0 rfl
            have hrun := HRUN.out
            clear HRUN
            generalize hll : ((pre.map (·.1)).filter (goes s keep) ++ [x.1]).length = n2 at *
            have HLL := Lib.hid hll
            clear hll c1 c2 hg hgo
            gi_wp2
            have hn2 := HLL.out
            subst hn2
            exact GoneI.push hn hc hbl (fun k hk => (own_lt ho k hk).1) hO2 hc2 hob hb2 (by rw [HFL.out]; simp)
          · have c3 : ((s.pin x.1 : Int) == 0) = false := by simpa using c2
            have hg : goes s keep x.1 = false := by unfold goes; simp [c2]
            have HFL := Lib.hid (hfm false hg)
            clear hfm hg hgo c1
            generalize s.pin x.1 = pn at *
            gi_wp2
            exact ⟨(w.heap.size + 3) :: ob v, fun k hk => ⟨hd k hk, .inl hk⟩, Chg.refl _ _, v, rfl, hb, by rw [HFL.out]; simpa using ho, hn, hc⟩
        · have c3 : ((keep.count x.1 : Int) == 0) = false := by simpa using c1
          have hg : goes s keep x.1 = false := by unfold goes; simp [c1]
          have HFL := Lib.hid (hfm false hg)
          clear hfm hg hgo
          generalize keep.count x.1 = cn at *
          gi_wp2
          exact ⟨(w.heap.size + 3) :: ob v, fun k hk => ⟨hd k hk, .inl hk⟩, Chg.refl _ _, v, rfl, hb, by rw [HFL.out]; simpa using ho, hn, hc⟩
      case done =>
        rintro D xs D1 W hD hDn hS ⟨v, rfl, hb, ho, hn, hc⟩ hK
        have hst2 := hst1.chg hc (fun k hk => by have := hfl k hk; simp; omega)
        have q6 : W.cell? ⟨w.heap.size + 3, 0, none⟩ = some v := blk_cell hb 0 rfl
        have q3 := hc.at hb21 (by simp)
        have hgl : ∀ q, q ∈ (xs.map (·.1)).filter (goes s keep) ↔ (s.node q).isSome = true ∧ goes s keep q = true := by
          intro q
          rw [List.mem_filter]
          refine and_congr_left (fun _ => ?_)
          constructor
          · intro hm
            obtain ⟨⟨p, h⟩, hp, rfl⟩ := List.mem_map.1 hm
            rw [(hS.mem p h).1 hp]; rfl
          · intro hm
            obtain ⟨h, hh⟩ := Option.isSome_iff_exists.1 hm
            exact List.mem_map.2 ⟨(q, h), (hS.mem q h).2 hh, rfl⟩
        have hnd : ((xs.map (·.1)).filter (goes s keep)).Nodup := (hS.up.imp (fun h => by omega)).filter _
        have hlen : ((xs.map (·.1)).filter (goes s keep)).length ≤ 1099511627776 := by
          have h1 := List.length_filter_le (goes s keep) (xs.map (·.1))
          rw [List.length_map, hS.len] at h1
          have := hst1.2.2.2.2.2.al
          omega
        have hWz := hc.size
        have htop := hst1.2.2.2.2.2.top
        have hn64 := hst1.2.2.2.2.2.n
        generalize (xs.map (·.1)).filter (goes s keep) = gl at *
        clear hS hsy1 hb51 hbg hba
        obtain ⟨a, cap2, rfl⟩ := ho.shape
        gi_wp2
        gi_loopw [11, 47] (fun _ i wr => ∃ k : Nat, k ≤ gl.length ∧ i = .int .i64 k ∧ KillsInv W b s (gl.take k) wr)
          (fun _ i _ => gl.length - (intOf i).toNat)
        case atStart => exact ⟨0, Nat.zero_le _, rfl, KillsInv.nil hst2⟩
        case round =>
          obtain ⟨k, hkk2, rfl, s1, hst3, hrl, hmv⟩ := hrel
          have hcF : ∀ j, j ∈ s.foot b → j < w.heap.size := hfl
          have p1 : wr.cell? ⟨w.heap.size, 0, none⟩ = some (.pointer (some ⟨b, 0, none⟩)) := blk_cell (hmv.1.at q3 (fun h => by have := hfl _ h; omega)) 0 rfl
          have p2 : wr.cell? ⟨w.heap.size + 3, 0, none⟩ = some (.slice a gl.length cap2) := blk_cell (hmv.1.at hb (fun h => by have := hfl _ h; omega)) 0 rfl
          have hor : UOwn wr w1.heap.size (.slice a gl.length cap2) gl := own_chg ho hmv.1 (fun k hk h => by have := (own_lt ho k hk).1; have := hfl _ h; omega)
          by_cases hlk : k < gl.length
          · obtain ⟨g, rfl, hcell⟩ := hor.cell hlk
            obtain ⟨hls, hgo⟩ := (hgl gl[k]).1 (List.getElem_mem hlk)
            obtain ⟨hh, hnode⟩ := Option.isSome_iff_exists.1 hls
            have hnk : gl[k] ∉ gl.take k := by
              intro hm
              obtain ⟨i, hi, e⟩ := List.mem_iff_getElem.1 hm
              simp only [List.length_take] at hi
              rw [List.getElem_take] at e
              have := (List.getElem_inj hnd).1 e
              omega
            have hnode1 : s1.node gl[k] = some hh := by rw [hrl.node, if_neg hnk]; exact hnode
            have hkc := kill_live b gl[k] s1 wr hst3 (by have := htop gl[k] hls; omega) hnode1
            have HTK := Lib.hid ((List.take_succ_eq_append_getElem hlk).symm)
            have hstep := fun e w' (h : KillPost wr b s1 gl[k] e w') => KillsInv.step hrl hst3 hmv hnode1 h
            clear hnk hnode hls hgo hgl hnd
            generalize gl[k] = p at *
            clear hst3 hrl hmv hor
            gi_wp2_with (refine ⟨trivial, rfl, ?_⟩; gi_at_call 46; refine (callsIn_wide.2 hkc).mono ?_; rintro e w5 hkp; obtain rfl : e = .returned (.bool true) := hkp.1; have hkp2 := hstep _ _ hkp; rw [HTK.out] at hkp2)
            go_roundw
            case rel => exact ⟨k + 1, by omega, by go_num, hkp2⟩
            case measure => simp [intOf]; omega
          · have hkg : k = gl.length := by omega
            subst hkg
            rw [List.take_length] at hrl
            gi_wp2
            have hKr : wr.heap[D]? = some (.deferred (some [])) := hmv.1.at hK (fun h => by have := hfl _ h; omega)
            have hp : Chg [D] wr (wr.putObj D (.deferred none)) := chg_put _ _ _
            have hft : ∀ k ∈ s1.foot b, k ∈ s.foot b ∨ w1.heap.size ≤ k := fun k hk => (hmv.2 k hk).imp id (fun q => by omega)
            refine ⟨by simp, .inl ⟨_, _, rfl, run_takeDeferred hKr, ?_⟩⟩
            refine ⟨_, results_tmp rfl _ _ _, s1, gl, rfl, ?_, hrl, ⟨?_, ?_⟩, hnd, hgl⟩
            · refine hst3.chg hp (fun k hk h => ?_)
              simp at h
              subst h
              rcases hmv.2 _ hk with q | q
              · have := hfl _ q; omega
              · have := blk_lt hK; omega
            · have c1 : Chg (s.foot b) w W := (hc1.of_nil).trans hc (fun x hx => .inr (by simp at hx; omega))
              have c2 := c1.trans hmv.1 (fun x hx => .inl hx)
              exact c2.trans hp (fun x hx => .inr (by simp at hx; have := hc1.size; omega))
            · intro k hk
              exact (hft k hk).imp id (fun q => by have := hc1.size; omega)
      case stop =>
        rintro D c pre D1 W hD hDn hSp h
        exact h.elim
end Go.Proofs.Ytonppfebmeehcaa
