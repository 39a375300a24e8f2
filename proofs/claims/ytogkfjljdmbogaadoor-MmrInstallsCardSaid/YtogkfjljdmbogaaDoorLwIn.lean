/- Install walked. -/
import Derived.Test.YtogkfjljdmbogaaDoorLwC
namespace Go.Proofs.YtogkfjljdmbogaaDoor
open Go.RowKit
set_option linter.unusedVariables false
set_option linter.unusedSimpArgs false

structure InsI (w wr : World) (b : Nat) (t : TS) (s' : SS) (ns : List (Array Value)) (i : Nat) : Prop where
  tr : TrIs wr b { t with s := s' }
  view : s'.view = t.s.view.pushes (ns.take i)
  n : s'.n = t.s.n + i
  al : s'.alive = t.s.alive + i
  log : s'.log = t.s.log
  pins : s'.pins = t.s.pins
  chg : Chg (t.foot b) w wr
  new : ∀ k ∈ s'.foot t.sb, k ∈ t.foot b ∨ w.heap.size ≤ k
theorem InsI.zero {w : World} {b : Nat} {t : TS} (ns : List (Array Value)) (h : TrIs w b t) : InsI w w b t t.s ns 0 :=
  ⟨h, by rw [List.take_zero]; rfl, rfl, rfl, rfl, rfl, Chg.refl _ _, fun k hk => .inl (by simp [TS.foot, hk])⟩
theorem InsI.next {w wr W w' : World} {b : Nat} {t : TS} {s' : SS} {ns : List (Array Value)} {i : Nat} {e : Ending} (h : InsI w wr b t s' ns i) (hi : i < ns.length) (hW : Chg [] wr W) (hp : PushP W t.sb s' ns[i] e w') :
    e = .returned (.int .u64 s'.n) ∧ ∃ s2, InsI w w' b t s2 ns (i + 1) := by
  obtain ⟨he, s2, h1, h2, h3, h4, h5, h6, h7, h8⟩ := push_tree (t := t) (h.tr.chg0 hW) hp
  have hs := hW.size
  have hc := h.chg.size
  refine ⟨he, s2, h1, ?_, by rw [h3, h.n]; omega, by rw [h4, h.al]; omega, h5.trans h.log, h6.trans h.pins, (h.chg.nil_trans hW).trans h7 (fun k hk => h.new k hk), fun k hk => ?_⟩
  · rw [h2, h.view, List.take_succ_eq_append_getElem hi, NV.pushes_snoc]
  · rcases h8 k hk with q | q
    · exact h.new k q
    · right; omega
def InsP (w : World) (b : Nat) (t : TS) (ns : List (Array Value)) (k : Nat) (e : Ending) (w' : World) : Prop :=
  e = .returned (.int .i64 0) ∧ ∃ t', TrIs w' b t' ∧ t'.sb = t.sb ∧ t'.wd = t.wd ∧ t'.size = t.size + k ∧ t'.s.view = t.s.view.pushes ns ∧ t'.s.alive = t.s.alive + ns.length ∧ t'.s.log = t.s.log ∧ t'.s.pins = t.s.pins ∧
    Chg (t.foot b) w w' ∧ (∀ x ∈ t'.foot b, x ∈ t.foot b ∨ w.heap.size ≤ x)
theorem InsI.last {w wr : World} {b k : Nat} {t : TS} {s' : SS} {ns : List (Array Value)} (h : InsI w wr b t s' ns ns.length) : InsP w b t ns k (.returned (.int .i64 0)) (wr.setCell ⟨b, 2, none⟩ (.int .u64 (t.size + k : Nat))) := by
  have hc : Chg [b] wr (wr.setCell ⟨b, 2, none⟩ (.int .u64 (t.size + k : Nat))) := (Chg.refl _ _).setCell (by simp) _
  refine ⟨rfl, ⟨s', t.sb, t.wd, t.size + k⟩, ⟨?_, h.tr.st.chg hc (fun k hk hm => ?_), h.tr.apart, h.tr.low, h.tr.wd⟩, rfl, rfl, rfl, ?_, h.al, h.log, h.pins, h.chg.trans hc (fun k hk => .inl (by simp at hk; simp [TS.foot, hk])), ?_⟩
  · have := blk_set h.tr.mem 2 (.int .u64 (t.size + k : Nat))
    rw [this]
    rfl
  · simp at hm; subst hm; exact h.tr.apart hk
  · have := h.view
    rw [List.take_length] at this
    exact this
  · intro x hx
    simp only [TS.foot, List.mem_cons] at hx
    rcases hx with rfl | hx
    · exact .inl (by simp [TS.foot])
    · exact h.new x hx
set_option maxRecDepth 100000 in
theorem install_count (w : World) (b : Nat) (t : TS) (a : Option Addr) (n cap k : Nat) (ht : TrIs w b t) (hsz : t.size + k ≤ 4611686018427387904) (hlen : n ≠ nodesN (t.size + k) - nodesN t.size) (hn : n ≤ 1099511627776) :
    Calls Tryd.prog 24 #[.pointer (some ⟨b, 0, none⟩), .slice a n cap, .int .u64 k] w (Res w [] (.int .i64 70)) := by
  have c2 := blk_cell ht.mem 2 rfl
  have hb := blk_lt ht.mem
  have h1 := fun W => Nodes_calls t.size (by omega) W
  have h2 := fun W => Nodes_calls (t.size + k) hsz W
  rw [show ((t.size + k : Nat) : Int) = (t.size : Int) + k from by omega] at h2
  have hm := nodes_mono (show t.size ≤ t.size + k from by omega)
  have hbd := nodes_le (t.size + k)
  have hne : ((n : Int) != ((nodesN (t.size + k) : Nat) : Int) - (nodesN t.size : Nat)) = true := by rw [bne_iff_ne]; omega
  have hts : t.size ≤ 4611686018427387904 := by omega
  have hkk : k ≤ 4611686018427387904 := by omega
  clear hlen
  generalize nodesN (t.size + k) = N2 at *
  generalize nodesN t.size = N1 at *
  clear ht
  go_enter Tryd.func24, Tryd.ntmps24
  go_wp2_with (first
    | (go_at_call 22; (with_reducible refine (h1 _).mono ?_); rintro e w1 ⟨rfl, hw1⟩; obtain rfl : w = w1 := hw1.symm)
    | (go_at_call 22; (with_reducible refine (h2 _).mono ?_); rintro e w1 ⟨rfl, hw1⟩; obtain rfl : w = w1 := hw1.symm))
  go_ret
  exact ⟨rfl, Chg.refl _ _⟩
set_option maxRecDepth 100000 in
set_option maxHeartbeats 4000000 in
theorem install_calls (w : World) (b : Nat) (t : TS) (a : Option Addr) (cap k : Nat) (ns : List (Array Value)) (ht : TrIs w b t) (hI : ∀ x ∈ ns, IsHash x) (hv : ∀ W, Chg (t.foot b) w W → HsIs W (.slice a ns.length cap) ns)
    (hsz : t.size + k ≤ 4611686018427387904) (hlen : ns.length = nodesN (t.size + k) - nodesN t.size) (hl : ns.length ≤ 1000000) (hn : t.s.n < 9223372036854775808) (ha : t.s.alive < 1000000000000) :
    Calls Tryd.prog 24 #[.pointer (some ⟨b, 0, none⟩), .slice a ns.length cap, .int .u64 k] w (InsP w b t ns k) := by
  have c2 := blk_cell ht.mem 2 rfl
  have hb := blk_lt ht.mem
  have h1 := fun W => Nodes_calls t.size (by omega) W
  have h2 := fun W => Nodes_calls (t.size + k) hsz W
  rw [show ((t.size + k : Nat) : Int) = (t.size : Int) + k from by omega] at h2
  have hm := nodes_mono (show t.size ≤ t.size + k from by omega)
  have hbd := nodes_le (t.size + k)
  have hne : ((ns.length : Int) != ((nodesN (t.size + k) : Nat) : Int) - (nodesN t.size : Nat)) = false := by rw [bne_eq_false_iff_eq]; omega
  have hts : t.size ≤ 4611686018427387904 := by omega
  have hkk : k ≤ 4611686018427387904 := by omega
  have hI0 := InsI.zero ns ht
  have HV := Lib.hid hv
  have HI := Lib.hid hI
  have HI0 := Lib.hid hI0
  clear hlen hv hI hI0
  generalize nodesN (t.size + k) = N2 at *
  generalize nodesN t.size = N1 at *
  clear ht
  go_enter Tryd.func24, Tryd.ntmps24
  go_wp2_with (first
    | (go_at_call 22; (with_reducible refine (h1 _).mono ?_); rintro e w1 ⟨rfl, hw1⟩; obtain rfl : w = w1 := hw1.symm)
    | (go_at_call 22; (with_reducible refine (h2 _).mono ?_); rintro e w1 ⟨rfl, hw1⟩; obtain rfl : w = w1 := hw1.symm))
  clear c2 hb h1 h2 hne hm hbd
  obtain ⟨w0, rfl⟩ : ∃ w0 : World, w0 = w := ⟨_, rfl⟩
  go_loopg [51] ns.length (fun g ii wx => ∃ (i : Nat) (s' : SS), i ≤ ns.length ∧ g = ns.length - i ∧ ii = .int .i64 i ∧ InsI w0 wx b t s' ns i)
  case atStart => exact ⟨0, t.s, by omega, by omega, rfl, HI0.out⟩
  case round =>
    obtain ⟨i, s', hil, hg, rfl, hA⟩ := hrel
    clear HI0
    have c0 := blk_cell hA.tr.mem 0 rfl
    have c2 := blk_cell hA.tr.mem 2 rfl
    have f2 := blk_frozen hA.tr.mem 2
    have hbr := blk_lt hA.tr.mem
    simp only at c0 c2
    by_cases hlt : i < ns.length
    · have hlt' : i < ns.length := hlt
      obtain ⟨_, a', cap', hveq, hrw⟩ := HV.out wr hA.chg
      injection hveq with e1 e2 e3
      subst e1 e3
      rcases hrw with hrw | ⟨pb, po, rfl, hpb, hrw⟩
      · subst hrw; simp at hlt'
      have hrow := hrw i hlt'
      have hlk := World.block_lt_of_cell? _ _ ((rng?_cell hrow).2 0 (by rw [(rng?_cell hrow).1]; omega))
      have hix := HI.out _ (List.getElem_mem hlt')
      have hW : Chg [] wr (wr.alloc (.cells ns[i] 26)).drew := ((Chg.refl _ _).alloc _).drew
      have htr := hA.tr.chg0 hW
      have hsn := hA.n
      have hsa := hA.al
      have hpush := push_calls t.sb s' ns[i] (wr.alloc (.cells ns[i] 26)).drew htr.st hix (by omega) (by omega)
      have hnx := fun (e : Ending) (w2 : World) (hp : PushP (wr.alloc (.cells ns[i] 26)).drew t.sb s' ns[i] e w2) => hA.next hlt' hW hp
      have d0 := blk_cell htr.mem 0 rfl
      simp only at d0
      have hs1 := hix.1
      have hs2 := hix.one
      have hbx := rng?_alloc_at wr wr.heap.size 32 ns[i] 26 rfl hs1
      have HP := Lib.hid hpush
      have HNX := Lib.hid hnx
      have HG := Lib.hid hg
      clear hpush hnx hg hA hrw htr hsn hsa hix c2 f2
      generalize ns[i] = x at *
      go_upto_region 10 with (fail)
      go_region_with (go_at_call 40; refine HP.out.mono ?_; intro e w2 hp; obtain ⟨he, s2, hA2⟩ := HNX.out e w2 hp; subst he)
      all_goals
        go_wp2
        go_roundg (ns.length - (i + 1))
        case measure => rw [HG.out]; omega
        case rel => exact ⟨i + 1, s2, by omega, rfl, by go_num, hA2⟩
    · obtain rfl : i = ns.length := by omega
      have hlast := hA.last (k := k)
      rw [show ((t.size + k : Nat) : Int) = (t.size : Int) + k from by omega] at hlast
      have HL := Lib.hid hlast
      clear hlast hA hg
      go_wp2
      go_ret
      exact HL.out
/-- The tree of the leaves ahead, with the nodes of more leaves installed: the tree of all. -/
theorem TreeOf.install {w0 w w' : World} {b : Nat} {t : TS} {wd : Int} {ls more ns : List (Array Value)} {e : Ending} (h : TreeOf w0 w b t wd ls) (hl : ns.length = nodesN (ls.length + more.length) - nodesN ls.length)
    (hg : ∀ i (h : i < ns.length), ns[i] = (treeV (widthI wd) (ls ++ more)).get (nodesN ls.length + i)) (hp : InsP w b t ns more.length e w') :
    e = .returned (.int .i64 0) ∧ ∃ t', TreeOf w0 w' b t' wd (ls ++ more) ∧ Chg (t.foot b) w w' ∧ (∀ x ∈ t'.foot b, x ∈ t.foot b ∨ w.heap.size ≤ x) := by
  obtain ⟨he, t', h1, h2, h3, h4, h5, h6, h7, h8, h9, h10⟩ := hp
  have hs := h.chg.size
  have hm := nodes_mono (show ls.length ≤ ls.length + more.length from by omega)
  have hsame : t'.s.view.same ((treeV (widthI wd) ls).pushes ns) := by
    rw [h5]
    have : ∀ (l : List (Array Value)) (u v : NV), u.same v → (u.pushes l).same (v.pushes l) := by
      intro l
      induction l with
      | nil => intro u v hs; exact hs
      | cons x l ih => intro u v hs; exact ih _ _ (NV.same_push hs x)
    exact this ns _ _ h.view
  have hi := install_same (widthI wd) ls more ns hl hg
  refine ⟨he, t', ⟨h1, h3.trans h.wdE, by rw [h4, h.size, List.length_append], ⟨hsame.1.trans hi.1, fun p => (hsame.2 p).trans (hi.2 p)⟩, ?_, ?_, ?_, h.chg.trans h9 (fun k hk => .inr (h.low k hk))⟩, h9, h10⟩
  · rw [h5]; exact NV.pushes_full ns _ h.fl
  · rw [h6, h.al, List.length_append]; omega
  · intro k hk
    rcases h10 k hk with q | q
    · exact h.low k q
    · omega
end Go.Proofs.YtogkfjljdmbogaaDoor
