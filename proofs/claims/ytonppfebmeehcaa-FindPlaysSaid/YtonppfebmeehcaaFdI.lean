/- A find: Twice walked. -/
import Derived.Test.YtonppfebmeehcaaFdH
import Derived.Test.YtonppfebmeehcaaMapRng
import Derived.Test.YtonppfebmeehcaaLysortH
import Derived.Maps.RangeWalk
namespace Go.Proofs.Ytonppfebmeehcaa
open Go.RowKit Go.Shelf Go.Sort
set_option linter.unusedVariables false
set_option linter.unusedSimpArgs false

theorem isAgg_HashS (w : World) : (isAgg 30).run Try.prog w = .ok true w := by kernel_rfl
theorem sizeOf_HashS (w : World) : (Go.sizeOf 30).run Try.prog w = .ok 32 w := by kernel_rfl
def cfF (ls : List HK) (x y : {k : HK // k ∈ ls ∨ ls = []}) : Int := cmpN (fstN x.1 ls) (fstN y.1 ls)
def encF (ls : List HK) (x : {k : HK // k ∈ ls ∨ ls = []}) : List Value := x.1.1.toList
theorem cmpN_neg (a b : Nat) : cmpN a b < 0 ↔ a < b := by
  unfold cmpN
  by_cases h : a < b
  · simp [h]
  · rw [if_neg h]
    split <;> simp <;> omega
theorem ltF (ls : List HK) (x y : {k : HK // k ∈ ls ∨ ls = []}) : ltOf (cfF ls) x y = decide (fstN x.1 ls < fstN y.1 ls) := by
  unfold ltOf cfF
  rw [Bool.eq_iff_iff]
  simp [cmpN_neg]
theorem swoF (ls : List HK) : SWO (ltOf (cfF ls)) where
  irrefl x := by rw [ltF]; simp
  trans x y z h1 h2 := by rw [ltF] at *; simp at *; omega
  ntrans x y z h1 h2 := by rw [ltF] at *; simp at *; omega
theorem lift_list {α : Type} {p : α → Prop} : ∀ (l : List α), (∀ x ∈ l, p x) → ∃ L : List {x // p x}, L.map (·.1) = l
  | [], _ => ⟨[], rfl⟩
  | x :: l, h => by
    obtain ⟨L, e⟩ := lift_list l (fun y hy => h y (by simp [hy]))
    exact ⟨⟨x, h x (by simp)⟩ :: L, by simp [e]⟩
/-- Those of the keys that stand twice. -/
def tw (ls pre : List HK) : List HK := pre.filter fun k => decide (1 < (idxOf k ls).length)
theorem tw_snoc (ls pre : List HK) (k : HK) : tw ls (pre ++ [k]) = if 1 < (idxOf k ls).length then tw ls pre ++ [k] else tw ls pre := by
  unfold tw
  rw [List.filter_append]
  by_cases h : 1 < (idxOf k ls).length <;> simp [h]
theorem FdIs.keyIn {w : World} {b : Nat} {f : FS} (h : FdIs w b f) (k : HK) : k ∈ f.mp.map (·.1) ↔ k ∈ f.ls := by
  constructor
  · intro hk
    obtain ⟨⟨k', v⟩, hm, rfl⟩ := List.mem_map.1 hk
    exact (h.val k' v hm).2
  · intro hk
    obtain ⟨v, hv⟩ := Option.isSome_iff_exists.1 (h.has k hk)
    exact List.mem_map.2 ⟨(k, v), mget_mem hv, rfl⟩
theorem FdIs.keysN {w : World} {b : Nat} {f : FS} (h : FdIs w b f) : (f.mp.map (·.1)).Nodup := h.map.keys
theorem nodup_len {w : World} {b : Nat} {f : FS} (h : FdIs w b f) : f.mp.length ≤ f.ls.length := by
  have := h.keysN.length_le_of_subset (fun k hk => (h.keyIn k).1 hk)
  simpa using this
def TwP (w : World) (f : FS) (e : Ending) (w' : World) : Prop := ∃ v, e = .returned v ∧ HOwn w' w.heap.size v ((twiceL f.ls).map (·.1)) ∧ Chg [] w w'
/-- The sort of what was collected. -/
theorem sortF_calls (w w1 : World) (b : Nat) (f : FS) (h : FdIs w b f) (hl : f.ls.length ≤ 100000) (hC : Chg [] w w1) (B : Nat) (hB : w1.heap[B]? = some (.cells #[.pointer (some ⟨b, 0, none⟩)] 23 (0, 0))) (base : Nat) (hbase : w.heap.size ≤ base) (hBb : B < base)
    (v : Value) (coll : List HK) (hcoll : coll = tw f.ls (f.mp.map (·.1)) ∨ ∃ pre, pre.Perm (f.mp.map (·.1)) ∧ coll = tw f.ls pre) (hO : HOwn w1 base v (coll.map (·.1))) (hnil : f.ls = [] → v = .slice none 0 0) :
    Calls Try.prog 63 #[v, .func (.func 64) #[] #[.pointer (some ⟨B, 0, none⟩)]] w1 fun e w' => e = .returned (.tuple #[]) ∧ HOwn w' base v ((twiceL f.ls).map (·.1)) ∧ Chg (ob v) w1 w' := by
  have hcoll : ∃ pre, pre.Perm (f.mp.map (·.1)) ∧ coll = tw f.ls pre := by
    rcases hcoll with e | e
    · exact ⟨_, List.Perm.refl _, e⟩
    · exact e
  obtain ⟨pre, hp, rfl⟩ := hcoll
  have hin : ∀ k, k ∈ tw f.ls pre ↔ k ∈ f.ls ∧ 1 < (idxOf k f.ls).length := by
    intro k
    unfold tw
    rw [List.mem_filter, hp.mem_iff, h.keyIn]
    simp
  have hnd : (tw f.ls pre).Nodup := (hp.nodup_iff.2 h.keysN).filter _
  obtain ⟨L, hL⟩ := lift_list (p := fun k => k ∈ f.ls ∨ f.ls = []) (tw f.ls pre) (fun k hk => .inl ((hin k).1 hk).1)
  haveI : Inhabited {k : HK // k ∈ f.ls ∨ f.ls = []} := ⟨by
    by_cases he : f.ls = []
    · exact ⟨⟨zeroHash, zeroHash_is⟩, .inr he⟩
    · exact ⟨f.ls.head he, .inl (List.head_mem he)⟩⟩
  have hfl : ∀ M : List {k : HK // k ∈ f.ls ∨ f.ls = []}, M.flatMap (encF f.ls) = ((M.map (·.1)).map (·.1)).flatMap (·.toList) := by
    intro M
    simp only [List.flatMap_map]
    rfl
  have hown : w1.ownsRow base 30 32 v L.length (L.flatMap (encF f.ls)) := by
    have := hO.1
    rw [← hL] at this
    rw [hfl]
    simpa using this
  have eg : ∀ args w, (callFunc 64 args).run Try.prog w = .ok (.enter 64 args) w := enters_of Try.func64 (by kernel_rfl) rfl
  have hlen : L.length ≤ 100000 := by
    have e := congrArg List.length hL
    simp only [List.length_map] at e
    have h1 : (tw f.ls pre).length ≤ pre.length := List.length_filter_le _ _
    have h2 := hp.length_eq
    rw [List.length_map] at h2
    have h3 := nodup_len h
    omega
  have hlt := h.lt
  have hbl := blk_lt hB
  have hS := sort_calls Try.sortH 32 isAgg_HashS sizeOf_HashS (encF f.ls) (fun x => x.1.2.1) (fun x u hu => by obtain ⟨n, rfl, _⟩ := x.1.2.2 u hu; rfl) (cfF f.ls) (swoF f.ls) 64 #[.pointer (some ⟨B, 0, none⟩)] eg w1 base 30 v L hown (by omega) (fun blk hblk => by
    intro m os dk hdk x y
    have hge : base ≤ blk := (own_lt hown blk (by rw [hblk]; simp)).1
    have hne : f.ls ≠ [] := fun e => by rw [hnil e] at hblk; simp [ob_nil] at hblk
    have hcw : Chg [blk] w1 (sortWorldK (encF f.ls) 32 w1 blk 0 m dk os) := srt_chg dk
    have hF : FdIs (sortWorldK (encF f.ls) 32 w1 blk 0 m dk os) b f := (h.chg0 hC).chg hcw (fun z hz => by have := hlt z hz; simp; omega)
    have hBc := hcw.at hB (by simp; omega)
    exact tw1_calls _ B b f (blk_cell hBc 0 rfl) hF hl x.1 y.1 (x.2.resolve_right hne) (y.2.resolve_right hne))
  have hS2 : Calls Try.prog 63 _ _ _ := hS
  refine hS2.mono ?_
  rintro e w' ⟨rfl, l', hp', hs', hown', hc'⟩
  have hmem : ∀ k, k ∈ l'.map (·.1) ↔ k ∈ f.ls ∧ 1 < (idxOf k f.ls).length := fun k => by
    rw [← hin k, ← hL]
    exact (hp'.map (·.1)).mem_iff
  have hnd' : (l'.map (·.1)).Nodup := by
    rw [(hp'.map (·.1)).nodup_iff, hL]
    exact hnd
  have hup : (l'.map (·.1)).Pairwise (fun a b => fstN a f.ls ≤ fstN b f.ls) := by
    rw [List.pairwise_map, List.pairwise_iff_getElem]
    intro i j hi hj hij
    have := hs' i j hij hj
    unfold cfF at this
    rw [cmpN_neg] at this
    omega
  have hfin := twice_unique hnd' hmem hup
  refine ⟨rfl, ⟨?_, fun y hy => ?_⟩, hc'⟩
  · rw [← hfin, ← hfl]
    have e := hp'.length_eq
    rw [← e] at hown'
    simpa using hown'
  · obtain ⟨k, _, rfl⟩ := List.mem_map.1 hy
    exact k.2
def RgI (w1 wx : World) (b r : Nat) (f : FS) (v : Value) (g : Nat) : Prop := ∃ pre, RngIs encH wx f.m r f.mp pre g ∧ HOwn wx w1.heap.size v ((tw f.ls pre).map (·.1)) ∧ Chg [r] w1 wx ∧ (f.ls = [] → v = .slice none 0 0)
set_option maxRecDepth 100000 in
set_option maxHeartbeats 4000000 in
theorem dTwice_calls (w : World) (b : Nat) (f : FS) (h : FdIs w b f) (hl : f.ls.length ≤ 100000) : Calls Try.prog 42 #[.pointer (some ⟨b, 0, none⟩)] w (TwP w f) := by
  obtain ⟨w0, rfl⟩ : ∃ w0 : World, w0 = w := ⟨_, rfl⟩
  have hA : Chg [] w0 (w0.alloc (.cells #[.pointer (some ⟨b, 0, none⟩)] 23)) := (Chg.refl _ _).alloc _
  have h1 := h.chg0 hA
  have hBx := blk_new w0 (.cells #[.pointer (some ⟨b, 0, none⟩)] 23)
  have cB := blk_cell hBx 0 rfl
  have c1 := blk_cell h1.mem 1 rfl
  have hLn : w0.heap.size < (w0.alloc (.cells #[.pointer (some ⟨b, 0, none⟩)] 23)).heap.size := by simp
  have hbl := blk_lt h1.mem
  have hm := h1.map
  have hlt := h1.lt
  have H := Lib.hid h
  have H1 := Lib.hid h1
  have HA := Lib.hid hA
  have HBx := Lib.hid hBx
  clear h h1 hA hBx
  go_enter Try.func42, Try.ntmps42
  go_wp2_with (at_range; refine wp_mrange _ rfl _ rfl u_maph rfl hm ?_; intro w1 hrg0 hc0 hs0)
  go_frame
  rw [World.size_alloc] at hs0
  have hr0 : (w0.alloc (.cells #[.pointer (some ⟨b, 0, none⟩)] 23)).heap.size = w0.heap.size + 1 := World.size_alloc _ _
  rw [hr0] at hrg0 ⊢
  have hz : w1.heap.size = w0.heap.size + 2 := by omega
  have HF1 := Lib.hid (H1.out.chg0 hc0)
  have HB1 := Lib.hid (hc0.at HBx.out (by simp))
  have HC1 := Lib.hid (HA.out.nil_trans hc0)
  have h00 : RgI w1 w1 b (w0.heap.size + 1) f (.slice none 0 0) f.mp.length := ⟨[], hrg0, HOwn.nil _ _, Chg.refl _ _, fun _ => rfl⟩
  clear hrg0 hc0 cB c1
  go_loopg [3] f.mp.length (fun g l wx => ∃ v, l = v ∧ RgI w1 wx b (w0.heap.size + 1) f v g)
  case atStart => exact ⟨_, rfl, h00⟩
  case round =>
    clear h00
    obtain ⟨v, rfl, pre, hrg, hO, hC, hnil⟩ := hrel
    have hCw : Chg [] w0 wr := HC1.out.trans hC (fun x hx => .inr (by simp at hx; omega))
    have hBr := hC.at HB1.out (by simp)
    have hFr : FdIs wr b f := H.out.chg0 hCw
    have hol := own_lt hO.1
    have hszr : w0.heap.size + 2 ≤ wr.heap.size := by have := hC.size; omega
    go_wp2_with (at_next; refine wp_mnext _ rfl _ rfl encH_law rfl hrg ?_ ?_)
    · intro hc0 hp
      have hS := sortF_calls w0 wr b f H.out hl hCw w0.heap.size hBr w1.heap.size (by omega) (by omega) u3 (tw f.ls pre) (.inr ⟨pre, hp, rfl⟩) hO hnil
      have HS := Lib.hid hS
      clear hS hrg hO hnil hBr hFr hm
      go_wp2_with (go_at_call 63; refine HS.out.mono ?_; rintro e w4 ⟨rfl, hO4, hc4⟩)
      go_ret
      exact ⟨_, rfl, ⟨own_mono hO4.1 (by omega), hO4.2⟩, hCw.trans hc4 (fun x hx => .inr (by have := (hol x hx).1; omega))⟩
    · intro k v2 w2 hkv hkp hrg2 hpos hc2 hs2 hen
      obtain ⟨hU, hkin⟩ := hFr.val k v2 hkv
      obtain ⟨a2, cap2, rfl⟩ := hU.shapeU
      have hil := idxOf_length k f.ls
      have hne : f.ls = [] → False := fun e => by rw [e] at hkin; simp at hkin
      have hr2 : w0.heap.size + 1 ∉ ob u3 := fun hx => by have := (hol _ hx).1; omega
      have hA3 : Chg [] w2 (w2.alloc (.cells k.1 30)) := (Chg.refl _ _).alloc _
      have hO3 : HOwn (w2.alloc (.cells k.1 30)) w1.heap.size u3 ((tw f.ls pre).map (·.1)) := (hO.chg hc2 (fun x hx hx2 => by simp at hx2; subst hx2; exact hr2 hx)).chg hA3 (by simp)
      have hC3 : Chg [w0.heap.size + 1] w1 (w2.alloc (.cells k.1 30)) := (hC.trans hc2 (fun x hx => .inl hx)).nil_trans hA3
      have hrg3 := hrg2.chg hA3 (by simp) (by simp)
      have htw := tw_snoc f.ls pre k
      have hk1 := k.2.1
      have hk2 := k.2.one
      have hmL : f.m < w1.heap.size := by have := H.out.map.lt; omega
      unfold encH at hen
      by_cases hgt : 1 < (idxOf k f.ls).length
      · rw [if_pos hgt] at htw
        have htl : ((tw f.ls pre).map (·.1)).length ≤ 4294967296 := by
          have q1 : (tw f.ls pre).length ≤ pre.length := List.length_filter_le _ _
          obtain ⟨rest, q2⟩ := hrg.rest
          have q3 := q2.length_eq
          have q4 := nodup_len hFr
          simp only [List.length_append, List.length_map] at q3 ⊢
          omega
        obtain ⟨v4, w4, hrun, hO4, hc4, hb4⟩ := hO3.push k.1 k.2 htl (by have := hC3.size; omega) 26
        rw [World.size_alloc] at hrun
        have hnext : RgI w1 w4 b (w0.heap.size + 1) f v4 (gk - 1) := by
          refine ⟨pre ++ [k], hrg3.chg hc4 (fun hx => by have := (hol _ hx).1; omega) hr2, ?_, hC3.trans hc4 (fun x hx => .inr (hol x hx).1), fun e => (hne e).elim⟩
          rw [htw, List.map_append]
          exact hO4
        have HN := Lib.hid hnext
        have hgtI : decide ((1 : Int) < ((idxOf k f.ls).length : Int)) = true := by simp; omega
        clear hnext hO4 hc4 hb4 hO3 hC3 hrg3 hrg hrg2 hO hC hCw hBr hFr hU htw hm hnil hkv hA3 hs2 hc2 htl
        generalize (idxOf k f.ls).length = n at *
        generalize k.1 = x at *
        go_wp2_with (at_builtin; refine Lib.wpList_append_run _ rfl _ _ _ _ rfl _ _ rfl rfl _ _ hrun ?_)
        go_roundg (gk - 1)
        case measure => omega
        case rel => exact ⟨_, rfl, HN.out⟩
      · rw [if_neg hgt] at htw
        have hnext : RgI w1 (w2.alloc (.cells k.1 30)) b (w0.heap.size + 1) f u3 (gk - 1) := by
          refine ⟨pre ++ [k], hrg3, ?_, hC3, fun e => (hne e).elim⟩
          rw [htw]
          exact hO3
        have HN := Lib.hid hnext
        have hgtI : decide ((1 : Int) < ((idxOf k f.ls).length : Int)) = false := by simp; omega
        clear hnext hO3 hC3 hrg3 hrg hrg2 hO hC hCw hBr hFr hU htw hm hnil hkv hA3 hs2 hc2
        generalize (idxOf k f.ls).length = n at *
        generalize k.1 = x at *
        go_wp2
        go_roundg (gk - 1)
        case measure => omega
        case rel => exact ⟨_, rfl, HN.out⟩
end Go.Proofs.Ytonppfebmeehcaa
