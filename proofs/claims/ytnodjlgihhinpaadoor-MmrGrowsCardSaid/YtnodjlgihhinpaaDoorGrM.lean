/- Texts put into one by pack.py: GrA GrB GrC ArgC. -/
import Derived.Test.YtnodjlgihhinpaaDoorLwC
import Derived.Test.YtnodjlgihhinpaaDoorItEM
import Derived.Test.YtnodjlgihhinpaaDoorLwD
import Derived.Test.YtnodjlgihhinpaaDoorPos
import Derived.Test.YtnodjlgihhinpaaDoorArg
/- Grow: what the store's All tells of a tree (plain); what is gathered between two rounds. -/
namespace Go.Proofs.YtnodjlgihhinpaaDoor
open Go.RowKit
set_option linter.unusedVariables false
set_option linter.unusedSimpArgs false

/-- The nodes of a tree over these leaves, in the order in which they are made. -/
def growL (wd : Int) (ls : List (Array Value)) : List (Array Value) := (List.range (nodesN ls.length)).map (treeV (widthI wd) ls).get
theorem grow_len (wd : Int) (ls : List (Array Value)) : (growL wd ls).length = nodesN ls.length := by simp [growL]
theorem TreeOf.all {w0 w : World} {b : Nat} {t : TS} {wd : Int} {ls : List (Array Value)} (h : TreeOf w0 w b t wd ls) : AllIs t.s ((List.range (nodesN ls.length)).map fun p => (p, (treeV (widthI wd) ls).get p)) := by
  have hn := h.n
  have hok := h.tr.st.2.2.2.2.2
  refine ⟨?_, ?_, ?_⟩
  · rw [List.map_map]
    have : ((fun x : Nat × Array Value => x.1) ∘ fun p => (p, (treeV (widthI wd) ls).get p)) = id := rfl
    rw [this, List.map_id]
    exact List.pairwise_lt_range
  · intro p x
    rw [List.mem_map]
    constructor
    · rintro ⟨q, hq, e⟩
      injection e with e1 e2
      subst e1
      rw [List.mem_range] at hq
      have hs := h.fl q (by show q < t.s.n; omega)
      have hg := h.getH q
      unfold SS.getH at hg
      rw [if_pos (by omega)] at hg
      change (t.s.node q).isSome = true at hs
      obtain ⟨y, hy⟩ := Option.isSome_iff_exists.1 hs
      rw [hy] at hg ⊢
      rw [← e2, ← hg]
      rfl
    · intro hp
      have hlt := hok.top p (by rw [hp]; rfl)
      refine ⟨p, List.mem_range.2 (by omega), ?_⟩
      have hg := h.getH p
      unfold SS.getH at hg
      rw [if_pos hlt, hp] at hg
      rw [← hg]
      rfl
  · rw [List.length_map, List.length_range, h.al]
theorem allG_calls (p : Option Addr) (w : World) : Calls Tryd.prog 26 #[.pointer p] w fun e w' => e = .returned (.func (.func 46) #[] #[.pointer (some ⟨w.heap.size, 0, none⟩)]) ∧ w' = w.alloc (.cells #[.pointer p] 56) := by
  go_enter Tryd.func26, Tryd.ntmps26
  go_wp2
  go_ret
  exact ⟨rfl, rfl⟩
/-- What has been gathered between two rounds: a row of hashes whose slice lies in block Bg. -/
def GrI (w1 : World) (Bg : Nat) (pre : List (Nat × Array Value)) (D : List Nat) (W : World) : Prop :=
  ∃ v, D = Bg :: ob v ∧ W.heap[Bg]? = some (.cells #[v] 22 (0, 0)) ∧ HOwn W w1.heap.size v (pre.map (·.2)) ∧ Bg ∉ ob v ∧ Chg [Bg] w1 W
theorem GrI.stays (w1 : World) (Bg : Nat) : Stays w1.heap.size (GrI w1 Bg) := by
  rintro pre D W W' F ⟨v, rfl, hb, ho, hn, hc⟩ hcF hF
  exact ⟨v, rfl, hcF.at hb (fun h => (hF _ h).1 (by simp)), ho.chg hcF (fun k hk h => (hF _ h).1 (by simp [hk])), hn, hc.trans hcF (fun x hx => .inr (hF x hx).2)⟩
/-- A round has begun: the node's hash lies in block B. -/
def GrA' (w1 : World) (Bg : Nat) (a : Nat × Array Value → Nat → Act) (x : Nat × Array Value) (a' : Act) (pre : List (Nat × Array Value)) (D : List Nat) (W : World) : Prop :=
  ∃ v B, D = B :: Bg :: ob v ∧ a' = a x B ∧ W.heap[B]? = some (.cells x.2 37 (0, 0)) ∧ B ≠ Bg ∧ B ∉ ob v ∧ w1.heap.size ≤ B ∧ W.heap[Bg]? = some (.cells #[v] 22 (0, 0)) ∧ HOwn W w1.heap.size v (pre.map (·.2)) ∧ Bg ∉ ob v ∧ Chg [Bg] w1 W
theorem GrA'.stays (w1 : World) (Bg : Nat) (a : Nat × Array Value → Nat → Act) (x : Nat × Array Value) (a' : Act) : Stays w1.heap.size (GrA' w1 Bg a x a') := by
  rintro pre D W W' F ⟨v, B, rfl, h0, h1, h2, h3, h4, h5, h6, h7, h8⟩ hcF hF
  exact ⟨v, B, rfl, h0, hcF.at h1 (fun h => (hF _ h).1 (by simp)), h2, h3, h4, hcF.at h5 (fun h => (hF _ h).1 (by simp)), h6.chg hcF (fun k hk h => (hF _ h).1 (by simp [hk])), h7, h8.trans hcF (fun x hx => .inr (hF x hx).2)⟩
theorem GrI.push {w1 W W2 : World} {Bg B : Nat} {pre : List (Nat × Array Value)} {x : Nat × Array Value} {v v2 : Value} (hn : Bg ∉ ob v) (hc : Chg [Bg] w1 W) (hBg : Bg < W.heap.size) (hlo : ∀ k ∈ ob v, w1.heap.size ≤ k)
    (hO2 : HOwn W2 w1.heap.size v2 (pre.map (·.2) ++ [x.2])) (hc2 : Chg (ob v) W W2) (hob : ∀ k ∈ ob v2, k ∈ ob v ∨ W.heap.size ≤ k) (hb2 : W2.heap[Bg]? = some (.cells #[v] 22 (0, 0))) :
    ∃ D', Dok (B :: Bg :: ob v) W D' (W2.setCell ⟨Bg, 0, none⟩ v2) ∧ Chg (B :: Bg :: ob v) W (W2.setCell ⟨Bg, 0, none⟩ v2) ∧ GrI w1 Bg (pre ++ [x]) D' (W2.setCell ⟨Bg, 0, none⟩ v2) := by
  have hz2 := hc2.size
  have hn2 : Bg ∉ ob v2 := fun h => (hob _ h).elim hn (fun q => by omega)
  have hs3 : Chg [Bg] W2 (W2.setCell ⟨Bg, 0, none⟩ v2) := (Chg.refl _ _).setCell (.inl (by simp)) _
  refine ⟨Bg :: ob v2, ?_, ?_, v2, rfl, blk_set hb2 0 _, ?_, hn2, ?_⟩
  · intro k hk
    rcases List.mem_cons.1 hk with q | hk
    · subst q; exact ⟨by have := hs3.size; omega, .inl (by simp)⟩
    · refine ⟨by have := (own_lt hO2.1 _ hk).2; have := hs3.size; omega, ?_⟩
      exact (hob k hk).imp (fun q => by simp [q]) id
  · exact (hc2.mono (fun k hk _ => by simp [hk])).trans hs3 (fun k hk => by simp at hk; simp [hk])
  · rw [List.map_append]; exact hO2.chg hs3 (fun k hk h => by simp at h; subst h; exact hn2 hk)
  · exact (hc.trans hc2 (fun k hk => .inr (hlo k hk))).trans hs3 (fun k hk => .inl hk)
end Go.Proofs.YtnodjlgihhinpaaDoor

/- Grow walked. -/
namespace Go.Proofs.YtnodjlgihhinpaaDoor
open Go.RowKit Go.Shelf
set_option linter.unusedVariables false
set_option linter.unusedSimpArgs false
attribute [local go_sem] Oper.semAt_some

def apG (ts : Array TypeId) (ty : TypeId) (xs : Array Value) : Sem Value := Builtin.append_ ts ty xs
theorem hold_apG (ts : Array TypeId) (ty : TypeId) (xs : Array Value) : Builtin.append_ ts ty xs = apG ts ty xs := rfl
attribute [local go_sem ↓] hold_apG
def MGrowP (w : World) (wd : Int) (ls : List (Array Value)) (e : Ending) (w' : World) : Prop := ∃ v, e = .returned (.tuple #[v, .int .i64 0]) ∧ HOwn w' w.heap.size v (growL wd ls) ∧ Chg [] w w'
set_option maxRecDepth 100000 in
set_option maxHeartbeats 8000000 in
theorem mgrow_calls (w : World) (wd : Int) (hwd : -9223372036854775808 ≤ wd ∧ wd < 9223372036854775808) (lv : Value) (ls : List (Array Value)) (hv : HsIs w lv ls) (hlen : ls.length ≤ 65536) (hp : popc ls.length = 1) (hk : HIs w) :
    Calls Tryd.prog 8 #[.int .i64 wd, lv] w (MGrowP w wd ls) := by
  obtain ⟨hI, a, cap, rfl, hr⟩ := hv
  obtain ⟨w0, rfl⟩ : ∃ w0 : World, w0 = w := ⟨_, rfl⟩
  have hnew := tnew_ok w0 wd hwd 16 (by omega) hk
  rw [show ((16 : Nat) : Int) = 16 from rfl] at hnew
  have hones := ones_calls ls.length (by omega) w0
  rw [hp] at hones
  clear hp
  refine callsIn_wide (n := 0).1 ?_
  refine callsIn_of_wp_marks Tryd.func8 rfl trivial ?_ rfl
  simp only [Tryd.ntmps8, List.size_toArray, List.length_cons, List.length_nil, Nat.reduceAdd, Nat.reduceSub, Array.replicate_succ, Array.replicate_zero, List.push_toArray, List.append_toArray, List.nil_append, List.cons_append]
  gi_wp2_with (refine ⟨trivial, rfl, ?_⟩; first
    | (gi_at_call 23; refine (callsIn_wide.2 hones).mono ?_; rintro e w1 ⟨rfl, hw1⟩; obtain rfl : w0 = w1 := hw1.symm)
    | (gi_at_call 24; refine (callsIn_wide.2 hnew).mono ?_; rintro e w1 ⟨b, t, rfl, h1, h2, h3, h4, h5, h6, h7, h8, h9⟩))
  have hT0 : TreeOf w0 w1 b t wd [] := TreeOf.zero h1 h2 h3 h4 h5 h6 h7
  clear hnew hones h1 h2 h3 h4 h5 h6 h7 h8 h9
  gi_loopw [10, 31] (fun _ i wr => ∃ (k : Nat) (t : TS), k ≤ ls.length ∧ i = .int .i64 k ∧ TreeOf w0 wr b t wd (ls.take k)) (fun _ i _ => ls.length - (intOf i).toNat)
  case atStart => exact ⟨0, t, by omega, rfl, by rw [List.take_zero]; exact hT0⟩
  case round =>
    clear hT0 t
    obtain ⟨k, t, hkl, rfl, hT⟩ := hrel
    by_cases hlt : k < ls.length
    · have hlt' : k < ls.length := hlt
      rcases hr with hr | ⟨pb, po, rfl, hpb, hr⟩
      · subst hr; simp at hlt'
      have hrow := rng?_chg hT.chg (hr k hlt') (by omega) (by simp)
      have hlk := World.block_lt_of_cell? _ _ ((rng?_cell hrow).2 0 (by rw [(rng?_cell hrow).1]; omega))
      have hIk := hI ls[k] (List.getElem_mem hlt')
      have htl : (ls.take k).length = k := by rw [List.length_take]; omega
      have htk : ls.take k ++ [ls[k]] = ls.take (k + 1) := (List.take_succ_eq_append_getElem hlt').symm
      have hTa := hT.chg0 ((Chg.refl [] wr).alloc (.cells ls[k] 37))
      have happ := hTa.call hIk (hk.chg0 hTa.chg) (by omega)
      have hnx : ∀ e w2, TreeApp w0 (wr.alloc (.cells ls[k] 37)) b t wd (ls.take k) ls[k] e w2 → e = .returned (.int .u64 k) ∧ ∃ t', TreeOf w0 w2 b t' wd (ls.take (k + 1)) := by
        rintro e w2 ⟨he, t', h1, _, _⟩
        exact ⟨by rw [he, htl], t', by rw [← htk]; exact h1⟩
      have HAP := Lib.hid happ
      have HNX := Lib.hid hnx
      have hk300 : k < 100000 := by omega
      have hI1 := hIk.1
      have hI2 := hIk.one
      clear happ hnx htk htl hr hI hT hTa
      generalize ls[k] = x at *
      gi_wp2_with (refine ⟨trivial, rfl, ?_⟩; gi_at_call 25; refine (callsIn_wide.2 HAP.out).mono ?_; intro e w4 hp; obtain ⟨he, t', h1⟩ := HNX.out e w4 hp; subst he)
      go_roundw
      case rel => exact ⟨k + 1, t', by omega, by go_num, h1⟩
      case measure => simp [intOf]; omega
    · obtain rfl : k = ls.length := by omega
      rw [List.take_length] at hT
      have hsb := blk_cell hT.tr.mem 0 rfl
      have hbl := blk_lt hT.tr.mem
      have hcx : Chg [] wr ((wr.alloc (.cells #[.slice none 0 0] 22)).alloc (.cells #[.pointer (some ⟨t.sb, 0, none⟩)] 56)) := ((Chg.refl _ _).alloc _).alloc _
      have hbg := blk_alloc (blk_new wr (.cells #[.slice none 0 0] 22)) (.cells #[.pointer (some ⟨t.sb, 0, none⟩)] 56)
      have hba := blk_new (wr.alloc (.cells #[.slice none 0 0] 22)) (.cells #[.pointer (some ⟨t.sb, 0, none⟩)] 56)
      rw [World.size_alloc] at hba
      have hz : ((wr.alloc (.cells #[.slice none 0 0] 22)).alloc (.cells #[.pointer (some ⟨t.sb, 0, none⟩)] 56)).heap.size = wr.heap.size + 2 := by simp
      have hst := hT.tr.st.chg0 hcx
      have hc5 := hT.chg.nil_trans hcx
      have hfl := hT.tr.st.lt
      have hAll := hT.all
      have hN := grow_len wd ls
      have hlow := hT.chg.size
      clear hr hI hkl
      gi_wp2_with (refine ⟨trivial, rfl, ?_⟩; gi_at_call 26; refine (callsIn_wide.2 (allG_calls _ _)).mono ?_; rintro e w5 ⟨rfl, rfl⟩)
      generalize (wr.alloc (.cells #[.slice none 0 0] 22)).alloc (.cells #[.pointer (some ⟨t.sb, 0, none⟩)] 56) = w5 at *
      generalize hgg : wr.heap.size = g at *
      have HT := Lib.hid hT
      clear hT hsb hcx hgg
      refine wpIn_range (gf := 46) (lb := #[.pointer (some ⟨g + 1, 0, none⟩)]) rfl (enters_of Tryd.func46 (by kernel_rfl) rfl) (all_seq (g + 1) t.sb t.s w5 hba hst) (Chg.refl _ _) (fun _ => rfl)
        (GrI w5 g) (fun _ _ _ _ => False) [g] (fun k hk => by simp at hk; subst hk; exact ⟨by omega, fun h => by
          rcases List.mem_cons.1 h with e | e
          · omega
          · have := hfl _ e; omega⟩) (fun k hk => by
          rcases List.mem_cons.1 hk with e | e
          · omega
          · have := hfl _ e; omega)
        (GrI.stays _ _) (fun c pre D W W' F h => h.elim) ⟨_, rfl, hbg, HOwn.nil _ _, by simp [ob_nil], Chg.refl _ _⟩
        (GrA' w5 g (fun x B => { tmps := #[.int .i64 wd, .slice a ls.length cap, undef, undef, .slice none 0 0, .int .i64 0, .int .u64 ((ls.length : Nat) : Int), .pointer (some ⟨b, 0, none⟩), .int .i64 0, undef, u10, .pointer (some ⟨g, 0, none⟩), undef, .pointer (some ⟨B, 0, none⟩), .slice a ls.length cap, .int .i64 ((ls.length : Nat) : Int), .int .u64 ((ls.length : Nat) : Int), .int .u64 ((ls.length : Nat) : Int), .int .i64 1, .bool false, .bool false, .int .u64 ((ls.length : Nat) : Int), .bool (decide (65536 < ((ls.length : Nat) : Int))), .bool (decide (65536 < ((ls.length : Nat) : Int))), .tuple #[.pointer (some ⟨b, 0, none⟩), .int .i64 0], .int .i64 wd, .tuple #[.pointer (some ⟨b, 0, none⟩), .int .i64 0], .pointer (some ⟨b, 0, none⟩), .int .i64 0, .slice a ls.length cap, .int .i64 ((ls.length : Nat) : Int), .int .i64 ((ls.length : Nat) : Int), .bool false, u33, u34, u35, u36, u37, u38, .pointer (some ⟨b, 0, none⟩), .pointer (some ⟨b, 0, none⟩), .pointer (some ⟨b, 0, none⟩), .pointer (some ⟨t.sb, 0, none⟩), .func (.func 46) #[] #[.pointer (some ⟨g + 1, 0, none⟩)], .int .u64 ((x.1 : Nat) : Int), .agg x.2, undef, undef, undef, undef, undef], defers := [] }))
        (fun x a' => GrA'.stays _ _ _ x a') ?assign ?body ?done ?stop
      case assign =>
        rintro l pre x W D1 K ⟨v, rfl, hb, ho, hn, hc⟩ hd hsp hK
        have hx := hsp
        have hxs : x.2.size = 32 ∧ one1 x.2 = true := by
          obtain ⟨xs, hxs, hp⟩ := hsp
          have hm : x ∈ xs := hp.subset (by simp)
          have hn := (hxs.mem x.1 x.2).1 hm
          obtain ⟨_, _, _, _, hh⟩ := node_ptr hst hn
          exact ⟨hh.1, hh.one⟩
        obtain ⟨hx1, hx2⟩ := hxs
        have hbl2 := blk_lt hb
        have hol := own_lt ho.1
        gi_wp2
        have hz2 := hc.size
        refine hK _ _ (W.heap.size :: g :: ob v) (fun k hk => ?_) ((Chg.refl _ _).alloc _) ⟨v, W.heap.size, rfl, rfl, blk_new W _, by omega, fun h => by have := (hol _ h).2; omega, by omega, blk_alloc hb _, ho.chg ((Chg.refl [] W).alloc _) (by simp), hn, hc.alloc _⟩
        rcases List.mem_cons.1 hk with q | q
        · subst q; exact ⟨by simp, .inr (Nat.le_refl _)⟩
        · exact ⟨by have := hd k q; simp; omega, .inl q⟩
      case body =>
        rintro l pre x a' W D1 ⟨v, B, rfl, rfl, hB, hne, hnb, hge, hb, ho, hn, hc⟩ hd hsp
        have hxI : IsHash x.2 := by
          obtain ⟨xs, hxs, hp⟩ := hsp
          have hm : x ∈ xs := hp.subset (by simp)
          have hn := (hxs.mem x.1 x.2).1 hm
          obtain ⟨_, _, _, _, hh⟩ := node_ptr hst hn
          exact hh
        have hpl := hsp.len
        have hal := hst.2.2.2.2.2.al
        have hx1 := hxI.1
        have hx2 := hxI.one
        have hW := hc.size
        have q1 : W.cell? ⟨g, 0, none⟩ = some v := blk_cell hb 0 rfl
        have q2 : rng? W B 0 32 = some x.2 := rng?_row hB hx1
        have hBl := blk_lt hB
        have hgl := blk_lt hb
        have hlo := own_lt ho.1
        have hallen : pre.length ≤ 131072 := by
          obtain ⟨xs, hxs, hp⟩ := hsp
          have h1 := hp.length_le
          rw [hxs.uniq hAll] at h1
          simp at h1
          have := nodes_le ls.length
          omega
        obtain ⟨v2, W2, hrun0, hO2, hc2, hob⟩ := ho.push x.2 hxI (by rw [List.length_map]; omega) hW 22
        obtain ⟨a2, cap2, hv2⟩ : ∃ a2 cap2, v2 = .slice a2 (pre.map (·.2) ++ [x.2]).length cap2 := by obtain ⟨_, a2, cap2, h2, _⟩ := hO2.hs; exact ⟨a2, cap2, h2⟩
        subst hv2
        have hrun : (apG #[22, 22] 22 #[v, .slice (some ⟨W.heap.size, 0, none⟩) 1 1]).run Tryd.prog (W.alloc (.cells x.2 37)) = .ok (.slice a2 (pre.map (·.2) ++ [x.2]).length cap2) W2 := hrun0
        have hb2 := hc2.at hb hn
        have q7 := blk_frozen hb2 0
        have q8 : W2.cell? ⟨g, 0, none⟩ = some v := blk_cell hb2 0 rfl
        have HFN := Lib.hid (GrI.push (B := B) (x := x) hn hc hgl (fun k hk => (hlo k hk).1) hO2 hc2 hob hb2)
        generalize hll : (pre.map (·.2) ++ [x.2]).length = n2 at *
        clear hrun0 hO2 hc2 hob hb2 hlo ho hc hd hsp hB hb hxI hll hAll hal hpl
        gi_wp2
        exact HFN.out
      case done =>
        rintro D xs D1 W hD hDn hS ⟨v, rfl, hb, ho, hn, hc⟩ hK
        have q1 : W.cell? ⟨g, 0, none⟩ = some v := blk_cell hb 0 rfl
        have hgl := blk_lt hb
        have hxs := hS.uniq hAll
        have hg2 : xs.map (·.2) = growL wd ls := by
          rw [hxs]
          unfold growL
          rw [List.map_map]
          rfl
        have hWz := hc.size
        have HO := Lib.hid ho
        have HC := Lib.hid hc
        have HDN := Lib.hid hDn
        have HG := Lib.hid hg2
        have HK := Lib.hid hK
        clear hS hxs hb hba hbg hg2 ho hc hDn hAll
        gi_wp2
        have hp : Chg [D] W (W.putObj D (.deferred none)) := chg_put _ _ _
        refine ⟨by simp, .inl ⟨_, _, rfl, run_takeDeferred HK.out, ?_⟩⟩
        refine ⟨_, results_tmp2 rfl _ _ _, v, rfl, ?_, ?_⟩
        · rw [← HG.out]
          have h1 := HO.out.chg hp (fun k hk h => by simp at h; subst h; exact HDN.out (by simp [hk]))
          exact ⟨own_mono h1.1 (by omega), h1.2⟩
        · exact (hc5.trans HC.out (fun x hx => .inr (by simp at hx; omega))).trans hp (fun x hx => .inr (by simp at hx; omega))
      case stop =>
        rintro D c pre D1 W hD hDn hSp h
        exact h.elim
end Go.Proofs.YtnodjlgihhinpaaDoor

/- Powers of two: how many nodes, which peak. Plain. -/
namespace Go.Proofs.YtnodjlgihhinpaaDoor
set_option linter.unusedVariables false
set_option linter.unusedSimpArgs false
theorem popc_2pow (h : Nat) : popc (2 ^ h) = 1 := by
  have := popc_pow h 0 (Nat.two_pow_pos h)
  rw [Nat.add_zero, popc_zero] at this
  exact this
theorem nodes_2pow (h : Nat) : nodesN (2 ^ h) = 2 * 2 ^ h - 1 := by rw [nodes_pow0, Nat.pow_succ, Nat.mul_comm]
theorem t1_pred : ∀ h, t1 (2 ^ h - 1) = h
  | 0 => by rw [t1, dif_neg (by simp)]
  | h + 1 => by
    have hp := Nat.two_pow_pos h
    rw [show 2 ^ (h + 1) - 1 = 2 * (2 ^ h - 1) + 1 from by rw [Nat.pow_succ]; omega, t1_odd, t1_pred h]
    omega
theorem pk_pow (h : Nat) : pk (2 ^ h) h = 2 * 2 ^ h - 2 := by
  have hp := Nat.two_pow_pos h
  unfold pk
  rw [Nat.div_self hp, Nat.one_mul]
  have e := nodes_succ (2 ^ h - 1)
  rw [show 2 ^ h - 1 + 1 = 2 ^ h from by omega, nodes_2pow, t1_pred] at e
  omega
theorem bits_pow (h : Nat) (hh : h ≤ 7) : ((List.range 63).map (62 - ·)).filter (fun i => 2 ^ h / 2 ^ i % 2 == 1) = [h] := by
  have : ∀ h, h < 8 → ((List.range 63).map (62 - ·)).filter (fun i => 2 ^ h / 2 ^ i % 2 == 1) = [h] := by decide +kernel
  exact this h (by omega)
theorem peaks_pow (h : Nat) (hh : h ≤ 7) : peaksN (2 ^ h) = [2 * 2 ^ h - 2] := by
  unfold peaksN pkL
  rw [bits_pow h hh, List.map_cons, List.map_nil, pk_pow]
end Go.Proofs.YtnodjlgihhinpaaDoor

/- Lists of hashes among the arguments, with what is known of their room. -/
namespace Go.Proofs.YtnodjlgihhinpaaDoor
open Go.ChangeShapes Go.WideShapes Go.ChangeAt Go.RowKit
set_option linter.unusedVariables false
set_option linter.unusedSimpArgs false
def HsC (w : World) (v : Value) (hs : List (Array Value)) : Prop := HsIs w v hs ∧ ∀ a n cap, v = .slice a n cap → n ≤ cap ∧ cap ≤ 9223372036854775807
section
variable {H : Type} {enc : TypeId × Value → H} {W : World} {base : Nat} {spare : Nat → Bool} {held : Bool}
theorem open_hashesC {fuel : Nat} {a : Option Addr} {len cap : Nat} {x : DataW H × List MemPlace} (h : DataW.trod enc Tryd.prog W base spare held fuel 22 [.slice a len cap] = some x) : ∃ hs, HsC W (.slice a len cap) hs := by
  obtain ⟨hs, h1⟩ := open_hashes h
  refine ⟨hs, h1, fun a' n' cap' e => ?_⟩
  injection e with e1 e2 e3
  subst e1 e2 e3
  rcases Deep.open_slice u_hashesA h with ⟨hc, _⟩ | ⟨a', len', cap', m, n, D, Pl, hcs, _, hle, hcm, _⟩
  · simp at hc
    obtain ⟨rfl, rfl, rfl⟩ := hc
    omega
  · simp at hcs
    obtain ⟨rfl, rfl, rfl⟩ := hcs
    unfold maxLen at hcm
    omega
end
end Go.Proofs.YtnodjlgihhinpaaDoor
