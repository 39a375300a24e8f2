/- Data among the arguments; Add walked; MmrData walked. -/
import Derived.Test.YtogkfjljdmbogaaDoorLwR
import Derived.Test.YtogkfjljdmbogaaDoorLwAw
import Derived.Deep.Slices
import Derived.ProofKit
import Derived.OpenShut
import Derived.SizedLaws
import GoSem.ClaimJoined
namespace Go.Proofs.YtogkfjljdmbogaaDoor
open Go.RowKit
set_option linter.unusedVariables false
set_option linter.unusedSimpArgs false

def leafA (wd : Int) (d : List Nat) : Array Value := hV (leafN wd d)
theorem leafA_is (wd : Int) {d : List Nat} (hd : ∀ x ∈ d, x < 256) : IsHash (leafA wd d) := by
  have h := sum_ok wd (0 :: d) (by intro x hx; simp only [List.mem_cons] at hx; rcases hx with rfl | hx; exact (by decide); exact hd x hx)
  exact hV_is _ h.1 h.2
theorem leafA_width (w : Int) (d : List Nat) : leafA (widthI w) d = leafA w d := by unfold leafA leafN; rw [sum_width (widthN_I w)]
theorem leafA_calls (w : World) (wd : Int) (v : Value) (d : List Nat) (hv : BsIs w v d) (hl : d.length ≤ 1000000000) (hk : HIs w) : Calls Tryd.prog 16 #[.int .i64 wd, v] w (Res w [] (.agg (leafA wd d))) := leaf_calls w wd v d hv hl hk
theorem TreeApp.back {w0 w w1 w2 : World} {b : Nat} {t : TS} {wd : Int} {ls : List (Array Value)} {x : Array Value} {e : Ending} (hc : Chg [] w w1) (h : TreeApp w0 w1 b t wd ls x e w2) : TreeApp w0 w b t wd ls x e w2 := by
  obtain ⟨he, t', h1, h2, h3⟩ := h
  have hs := hc.size
  refine ⟨he, t', h1, hc.of_nil.trans h2 (fun k hk => .inl hk), fun k hk => ?_⟩
  rcases h3 k hk with q | q
  · exact .inl q
  · right; omega
set_option maxRecDepth 100000 in
theorem TreeOf.addCall {w0 w : World} {b : Nat} {t : TS} {wd : Int} {ls : List (Array Value)} (h : TreeOf w0 w b t wd ls) {v : Value} {d : List Nat} (hv : BsIs w v d) (hd : d.length ≤ 1000000000) (hk : HIs w) (hl : ls.length ≤ 1000000) :
    Calls Tryd.prog 15 #[.pointer (some ⟨b, 0, none⟩), v] w (TreeApp w0 w b t wd ls (leafA wd d)) := by
  have c1 : w.cell? ⟨b, 1, none⟩ = some (.int .i64 (widthI wd)) := by
    have := blk_cell h.tr.mem 1 rfl
    rwa [h.wdE] at this
  have hb := blk_lt h.tr.mem
  have hlf := leafA_calls w (widthI wd) v d hv hd hk
  have hli := leafA_is wd hv.1
  rw [leafA_width] at hlf
  have hap := fun (W : World) (hc : Chg [] w W) => (h.chg0 hc).call hli (hk.chg0 hc) hl
  have HA := Lib.hid hap
  obtain ⟨a, cap, rfl⟩ : ∃ a cap, v = .slice a d.length cap := by obtain ⟨h1, a, cap, hv, _⟩ := hv; exact ⟨a, cap, hv⟩
  clear hap hli hv h hk
  generalize leafA wd d = x at *
  generalize widthI wd = wi at *
  go_enter Tryd.func15, Tryd.ntmps15
  go_wp2_with (first
    | (go_at_call 16; refine hlf.mono ?_; rintro e w1 ⟨rfl, hc1⟩)
    | (go_at_call 20; refine (HA.out _ hc1).mono ?_; intro e w2 hp; obtain ⟨he, hr⟩ := hp; subst he))
  go_ret
  exact TreeApp.back hc1 ⟨rfl, hr⟩
/-- Lists of bytes that came in. -/
def DsIs (w : World) (v : Value) (ds : List (List Nat)) : Prop :=
  ∃ a cap, v = .slice a ds.length cap ∧ (ds = [] ∨ ∃ b o, a = some ⟨b, o, none⟩ ∧ b < w.heap.size ∧ ∀ i (hi : i < ds.length), ∃ s, w.cell? ⟨b, o + i, none⟩ = some s ∧ BsIs w s ds[i])
def weighD (ds : List (List Nat)) (k : Nat) : Nat := ((ds.take k).map fun d => 1 + d.length).sum
theorem weighD_succ (ds : List (List Nat)) (k : Nat) (h : k < ds.length) : weighD ds (k + 1) = weighD ds k + (1 + ds[k].length) := by
  unfold weighD
  rw [List.take_succ_eq_append_getElem h, List.map_append, List.sum_append]
  simp
theorem weighD_le (ds : List (List Nat)) : ∀ k, k ≤ ds.length → k ≤ weighD ds k
  | 0, _ => Nat.zero_le _
  | k + 1, h => by rw [weighD_succ ds k h]; have := weighD_le ds k (by omega); omega
theorem weighD_mono (ds : List (List Nat)) {i j : Nat} (hij : i ≤ j) (hj : j ≤ ds.length) : weighD ds i ≤ weighD ds j := by
  induction j with
  | zero => obtain rfl : i = 0 := by omega
            exact Nat.le_refl _
  | succ j ih =>
    rcases Nat.lt_or_ge i (j + 1) with q | q
    · have := ih (by omega) (by omega)
      rw [weighD_succ ds j hj]; omega
    · obtain rfl : i = j + 1 := by omega
      exact Nat.le_refl _
/-- The loop over the data. -/
structure DatI (w wr : World) (b k : Nat) (t : TS) (wd : Int) (v : Value) (ds : List (List Nat)) : Prop where
  tr : TreeOf w wr b t wd ((ds.take k).map (leafA wd))
  own : HOwn wr w.heap.size v ((ds.take k).map (leafA wd))
  apart : ∀ x ∈ ob v, x ∉ t.foot b
theorem DatI.next {w wr W w2 w3 w5 : World} {b k : Nat} {t : TS} {wd : Int} {v v5 : Value} {ds : List (List Nat)} {e : Ending} (h : DatI w wr b k t wd v ds) (hk : k < ds.length) (hW : Chg [] wr W)
    (ha : TreeApp w W b t wd ((ds.take k).map (leafA wd)) (leafA wd ds[k]) e w2) :
    e = .returned (.int .u64 k) ∧ Chg [] w w2 ∧ HOwn w2 w.heap.size v ((ds.take k).map (leafA wd)) ∧
      (∀ w3, Chg [] w2 w3 → ∀ v5 w5, HOwn w5 w.heap.size v5 ((ds.take k).map (leafA wd) ++ [leafA wd ds[k]]) → Chg (ob v) w3 w5 → (∀ x ∈ ob v5, x ∈ ob v ∨ w3.heap.size ≤ x) → ∃ t', DatI w w5 b (k + 1) t' wd v5 ds) := by
  obtain ⟨he, t', h1, h2, h3⟩ := ha
  have htl : ((ds.take k).map (leafA wd)).length = k := by rw [List.length_map, List.length_take]; omega
  have htk : (ds.take k).map (leafA wd) ++ [leafA wd ds[k]] = (ds.take (k + 1)).map (leafA wd) := by rw [List.take_succ_eq_append_getElem hk, List.map_append]; rfl
  have hol := own_lt h.own.1
  have hown := (h.own.chg hW (by simp)).chg h2 (fun x hx hm => h.apart x hx hm)
  have hws := hW.size
  have hap : ∀ x ∈ ob v, x ∉ t'.foot b := fun x hx hm => by
    rcases h3 x hm with q | q
    · exact h.apart x hx q
    · have := (hol x hx).2; omega
  refine ⟨by rw [he, htl], h1.chg, hown, fun w3 hc3 v5 w5 h5 hc5 hob => ?_⟩
  have hl1 := h1.tr.lt
  refine ⟨t', ?_, ?_, ?_⟩
  · rw [← htk]
    exact (h1.chg0 hc3).chgF hc5 (fun x hx hm => hap x hm hx) ((h1.chg.nil_trans hc3).trans hc5 (fun x hx => .inr (hol x hx).1))
  · rw [← htk]; exact h5
  · intro x hx hm
    rcases hob x hx with q | q
    · exact hap x q hm
    · have := hl1 x hm; have := hc3.size; omega
theorem BOwn.empty (w : World) (B : Nat) (hB : B ≤ w.heap.size) : BOwn (w.alloc (.cells #[] 5)) B (.slice (some ⟨w.heap.size, 0, none⟩) 0 0) [] :=
  own_new w B 5 1 0 #[] hB rfl (by decide)
/-- A copy of bytes: 'append([]byte{}, d...)'. -/
theorem copy_bytes (w : World) {s : Value} {d : List Nat} (hs : BsIs w s d) (hd : d.length ≤ 1000000000) : ∃ v' w', (Builtin.append_ #[35, 35] 35 #[.slice (some ⟨w.heap.size, 0, none⟩) 0 0, s]).run Tryd.prog (w.alloc (.cells #[] 5)) = .ok v' w' ∧ BsIs w' v' d ∧ Chg [] w w' := by
  obtain ⟨v', w', hr, h1, h2, h3⟩ := BsIs.append (BOwn.empty w w.heap.size (Nat.le_refl _)) (hs.chg0 ((Chg.refl [] w).alloc (.cells #[] 5))) (by simp; omega) (by simp) 35
  rw [List.nil_append] at h1
  exact ⟨v', w', hr, h1.bs hs.1, ((Chg.refl [] w).alloc _).trans h2 (fun k hk => .inr (by rw [ob_some] at hk; simp at hk; omega))⟩
/-! The data among the arguments, opened. -/
theorem weights_all {H : Type} {P : Program} {e : TypeId} : ∀ (l : List (DataW H)) (d : DataW H), d ∈ l → ∀ n ∈ d.weights P e, n ∈ DataW.weightsAll P e l
  | [], d, h, _, _ => by simp at h
  | c :: l, d, h, n, hn => by
    unfold DataW.weightsAll
    rcases List.mem_cons.1 h with rfl | h
    · exact List.mem_append.2 (.inl hn)
    · exact List.mem_append.2 (.inr (weights_all l d h n hn))
section
variable {H : Type} {enc : TypeId × Value → H} {W : World} {base : Nat} {spare : Nat → Bool} {held : Bool}
theorem u_bytess : Tryd.prog.underlying 34 = some (.slice 35) := by kernel_rfl
theorem u_bytesD : Tryd.prog.underlying 35 = some (.slice 5) := by kernel_rfl
theorem u_u8D : Tryd.prog.underlying 5 = some (.int .u8) := by kernel_rfl
theorem c_u8D : Tryd.prog.cellsOf 5 = 1 := by kernel_rfl
theorem c_bytesD : Tryd.prog.cellsOf 35 = 1 := by kernel_rfl
theorem b_u8D : Tryd.prog.bytesOf 5 = 1 := by kernel_rfl
theorem open_bytes {fuel : Nat} {cs : List Value} {x : DataW H × List MemPlace} (h : DataW.trod enc Tryd.prog W base spare held fuel 35 cs = some x) (hw : ∀ n ∈ x.1.weights Tryd.prog 35, n ≤ reachBytes) :
    ∃ s d, cs = [s] ∧ BsIs W s d ∧ d.length ≤ reachBytes := by
  rcases Deep.open_slice1 u_bytesD c_u8D h with ⟨hc, _⟩ | ⟨a', len', cap', m, n, V, D, Pl, hcs, _, hle, hmx, hm, hxe, hx⟩
  · exact ⟨_, [], hc, BsIs.nil W, Nat.zero_le _⟩
  · have hlm : len' ≤ m := by rw [hm]; split <;> omega
    obtain ⟨f, hf⟩ := Deep.choose_lt (α := Nat) (n := len') (p := fun i c => c < 256 ∧ W.cell? (a'.add i) = some (.int .u8 (c : Int))) (by
      intro i hi
      obtain ⟨h1, h2⟩ := hx i (by omega)
      obtain ⟨z, e1, _, e3⟩ := DataW.trod_int u_u8D h2
      simp [Lit.wf, IntKind.min, IntKind.max, IntKind.signed, IntKind.bits] at e3
      simp at e1
      refine ⟨z.toNat, by omega, ?_⟩
      rw [h1, e1]
      congr 2
      omega)
    refine ⟨_, (List.range len').map f, hcs, ⟨?_, some a', cap', by simp, by simpa using hle, hmx, ?_⟩, ?_⟩
    · intro c hc
      obtain ⟨i, hi, rfl⟩ := List.mem_map.1 hc
      exact (hf i (List.mem_range.1 hi)).1
    · by_cases h0 : len' = 0
      · left; simp [h0]
      · right
        obtain ⟨b, o, sp⟩ := a'
        have h1 := (hf 0 (by omega)).2
        have hsp : sp = none := by simpa [Addr.add] using World.cell?_spot h1
        subst hsp
        refine ⟨b, o, rfl, by simpa [Addr.add] using World.block_lt_of_cell? _ _ h1, ?_⟩
        intro i hi
        simp at hi
        simp only [List.getElem_map, List.getElem_range]
        have := (hf i hi).2
        rw [Addr.add_mid] at this
        exact this
    · have := hw ((len' + (m - len')) * 1) (by
        rw [hxe]
        unfold DataW.weights
        rw [u_bytesD]
        simp [b_u8D])
      simp
      omega
theorem open_datas {fuel : Nat} {a : Option Addr} {len cap : Nat} {x : DataW H × List MemPlace} (h : DataW.trod enc Tryd.prog W base spare held fuel 34 [.slice a len cap] = some x) (hw : ∀ n ∈ x.1.weights Tryd.prog 34, n ≤ reachBytes) :
    ∃ ds, DsIs W (.slice a len cap) ds ∧ ∀ d ∈ ds, d.length ≤ reachBytes := by
  rcases Deep.open_slice u_bytess h with ⟨hc, _⟩ | ⟨a', len', cap', m, n, D, Pl, hcs, _, hle, _, hm, hxe, hx⟩
  · simp at hc
    obtain ⟨rfl, rfl, rfl⟩ := hc
    exact ⟨[], ⟨none, 0, rfl, .inl rfl⟩, by simp⟩
  · simp at hcs
    obtain ⟨rfl, rfl, rfl⟩ := hcs
    have hlm : len ≤ m := by rw [hm]; split <;> omega
    obtain ⟨f, hf⟩ := Deep.choose_lt (α := List Nat) (n := len) (p := fun i d => d.length ≤ reachBytes ∧ ∃ s, W.cell? (a'.add i) = some s ∧ BsIs W s d) (by
      intro i hi
      obtain ⟨cs', h1, h2⟩ := hx i (by omega)
      rw [c_bytesD, Nat.mul_one] at h1
      obtain ⟨_, h3, h4⟩ := World.cells?_some h1
      obtain ⟨s, d, rfl, hb, hd⟩ := open_bytes h2 (fun q hq => hw q (by
        rw [hxe]
        unfold DataW.weights
        rw [u_bytess]
        exact List.mem_cons_of_mem _ (List.mem_append.2 (.inl (weights_all _ _ (List.mem_map.2 ⟨i, List.mem_range.2 hi, rfl⟩) q hq)))))
      refine ⟨d, hd, s, ?_, hb⟩
      have := h4 0 (by omega)
      simpa [Addr.add] using this)
    refine ⟨(List.range len).map f, ⟨some a', cap, by simp, ?_⟩, ?_⟩
    · by_cases h0 : len = 0
      · left; simp [h0]
      · right
        obtain ⟨b, o, sp⟩ := a'
        obtain ⟨_, s, h1, _⟩ := hf 0 (by omega)
        have hsp : sp = none := by simpa [Addr.add] using World.cell?_spot h1
        subst hsp
        refine ⟨b, o, rfl, by simpa [Addr.add] using World.block_lt_of_cell? _ _ h1, ?_⟩
        intro i hi
        simp at hi
        simp only [List.getElem_map, List.getElem_range]
        obtain ⟨_, s, h1, h2⟩ := hf i hi
        rw [Addr.add_mid] at h1
        exact ⟨s, h1, h2⟩
    · intro d hd
      obtain ⟨i, hi, rfl⟩ := List.mem_map.1 hd
      exact (hf i (List.mem_range.1 hi)).1
end
theorem reach_lt : reachBytes ≤ 140737488355328 := by decide
set_option maxRecDepth 100000 in
set_option maxHeartbeats 8000000 in
theorem data_row (w : World) (wd : Int) (hwd : -9223372036854775808 ≤ wd ∧ wd < 9223372036854775808) (dv : Value) (ds : List (List Nat)) (hv : DsIs w dv ds) (hL : ∀ d ∈ ds, d.length ≤ reachBytes) (hk : HIs w) :
    Calls Tryd.prog 4 #[.int .i64 wd, dv] w (Res w [] (.bool true)) := by
  obtain ⟨a, cap, rfl, hr⟩ := hv
  have hrl := reach_lt
  go_enter Tryd.func4, Tryd.ntmps4
  go_wp2
  go_loopg [5, 6] ds.length (fun g nn ii wx => ∃ i : Nat, i ≤ ds.length ∧ g = ds.length - i ∧ nn = .int .i64 (weighD ds i : Nat) ∧ ii = .int .i64 i ∧ weighD ds i ≤ 3000 ∧ wx = w)
  case atStart => exact ⟨0, by omega, by omega, rfl, rfl, Nat.zero_le _, rfl⟩
  case round =>
    obtain ⟨i, hi, hg, rfl, rfl, hwt, hw⟩ := hrel
    obtain rfl : w = wr := hw.symm
    by_cases hlt : i < ds.length
    · have hlt' := hlt
      rcases hr with hr | ⟨pb, po, rfl, hpb, hr⟩
      · subst hr; simp at hlt'
      obtain ⟨s, hc, hb⟩ := hr i hlt'
      obtain ⟨sa, scap, rfl⟩ : ∃ sa scap, s = .slice sa ds[i].length scap := by obtain ⟨_, sa, scap, h, _⟩ := hb; exact ⟨sa, scap, h⟩
      clear hb
      have hsu := weighD_succ ds i hlt'
      have hdl := hL _ (List.getElem_mem hlt')
      have hi3 := weighD_le ds i (by omega)
      have HSU := Lib.hid hsu
      have HG := Lib.hid hg
      clear hsu hg hr hL
      generalize ds[i].length = dl at *
      generalize weighD ds i = n0 at *
      have hdl2 : dl ≤ 140737488355328 := by omega
      clear hdl hrl
      by_cases hgt : n0 + (1 + dl) ≤ 3000
      · have ht : decide ((3000 : Int) < (n0 : Int) + (1 + (dl : Int))) = false := decide_eq_false (by omega)
        go_wp2
        go_roundg (ds.length - (i + 1))
        case measure => rw [HG.out]; omega
        case rel => exact ⟨i + 1, by omega, rfl, by rw [HSU.out]; go_num, by go_num, by rw [HSU.out]; exact hgt, rfl⟩
      · have ht : decide ((3000 : Int) < (n0 : Int) + (1 + (dl : Int))) = true := decide_eq_true (by omega)
        go_wp2
        go_ret
        exact ⟨rfl, Chg.refl _ _⟩
    · obtain rfl : i = ds.length := by omega
      have hD : ∀ k (h : k < ds.length), ds[k].length ≤ 3000 := fun k h => by
        have h1 := weighD_succ ds k h
        have h2 := weighD_mono ds (show k + 1 ≤ ds.length from h) (Nat.le_refl _)
        omega
      have hdn : ds.length ≤ 3000 := Nat.le_trans (weighD_le ds _ (Nat.le_refl _)) hwt
      have hnew := tnew_ok w wd hwd 4 (by omega) hk
      rw [show ((4 : Nat) : Int) = 4 from rfl] at hnew
      have HD := Lib.hid hD
      clear hD hwt hg hL hrl
      obtain ⟨wo, rfl⟩ : ∃ wo : World, wo = w := ⟨_, rfl⟩
      go_wp2_with (go_at_call 14; refine hnew.mono ?_; rintro e w1 ⟨b, t, rfl, h1, h2, h3, h4, h5, h6, h7, h8, h9⟩)
      have hT0 : TreeOf wo w1 b t wd [] := TreeOf.zero h1 h2 h3 h4 h5 h6 h7
      clear hnew h1 h2 h3 h4 h5 h6 h7 h8 h9
      go_loopg [9, 10] ds.length (fun g vv ii wx => ∃ (k : Nat) (t : TS), k ≤ ds.length ∧ g = ds.length - k ∧ ii = .int .i64 k ∧ DatI wo wx b k t wd vv ds)
      case atStart => exact ⟨0, t, by omega, by omega, rfl, by rw [List.take_zero]; exact hT0, HOwn.nil _ _, by simp [ob_nil]⟩
      case round =>
        clear hT0
        obtain ⟨k, t, hkl, hg, rfl, hA⟩ := hrel
        by_cases hlt : k < ds.length
        · have hlt' := hlt
          rcases hr with hr | ⟨pb, po, rfl, hpb, hr⟩
          · subst hr; simp at hlt'
          obtain ⟨s, hc, hb⟩ := hr k hlt'
          have hdl := HD.out k hlt'
          have hcell := (hA.tr.chg.cell (p := ⟨pb, po + k, none⟩) hpb (by simp)).trans hc
          have hbl := World.block_lt_of_cell? _ _ hcell
          have hbr := hb.chg0 hA.tr.chg
          obtain ⟨v1, w1', hr1, hb1, hc1⟩ := copy_bytes wr hbr (by omega)
          have htl : ((ds.take k).map (leafA wd)).length = k := by rw [List.length_map, List.length_take]; omega
          have hadd := (hA.tr.chg0 hc1).addCall hb1 (by omega) (hk.chg0 (hA.tr.chg.nil_trans hc1)) (by omega)
          have hnx := fun (e : Ending) (w2 : World) (hp : TreeApp wo w1' b t wd ((ds.take k).map (leafA wd)) (leafA wd ds[k]) e w2) => DatI.next (w3 := w2) (w5 := w2) (v5 := .slice none 0 0) hA hlt' hc1 hp
          have hli := leafA_is wd hb.1
          have hcp := fun (W : World) (hc : Chg [] wo W) => copy_bytes W (hb.chg0 hc) (by omega)
          have hlf := fun (W : World) (v : Value) (hv : BsIs W v ds[k]) (hc : Chg [] wo W) => leafA_calls W wd v ds[k] hv (by omega) (hk.chg0 hc)
          have hcl := fun (W : World) (hW : Chg [] wo W) => (hW.cell (p := ⟨pb, po + k, none⟩) hpb (by simp)).trans hc
          have HADD := Lib.hid hadd
          have HNX := Lib.hid hnx
          have HCP := Lib.hid hcp
          have HLF := Lib.hid hlf
          have HCL := Lib.hid hcl
          have HG := Lib.hid hg
          have hs1 := hli.1
          have hs2 := hli.one
          have hpl : (List.map (leafA wd) (List.take k ds)).length ≤ 3000 := by omega
          have hk3 : k < 3000 := by omega
          have HLI := Lib.hid hli
          obtain ⟨sa, scap, rfl⟩ : ∃ sa scap, s = .slice sa ds[k].length scap := by obtain ⟨_, sa, scap, h, _⟩ := hb; exact ⟨sa, scap, h⟩
          clear hb hadd hnx hcp hlf hcl hg hA hr hbr hb1 hc1 htl hc hli
          generalize leafA wd ds[k] = x at *
          go_wp2_with (at_builtin; refine Lib.wpList_append_run _ rfl _ _ _ _ rfl _ _ rfl rfl _ _ hr1 ?_)
          go_at_call 15
          refine HADD.out.mono ?_
          intro e w2 hp
          obtain ⟨he, hc2, hO2, hfin⟩ := HNX.out e w2 hp
          subst he
          obtain ⟨v3, w3, hr3, hb3, hc3⟩ := HCP.out w2 hc2
          have hcell2 := HCL.out w2 hc2
          have hbl2 := World.block_lt_of_cell? _ _ hcell2
          have hlf := HLF.out w3 v3 hb3 (hc2.nil_trans hc3)
          have HLF2 := Lib.hid hlf
          have HFIN := Lib.hid hfin
          have HO2 := Lib.hid hO2
          clear hlf hfin hp hb3 hO2 hr1 HADD HNX hcell hbl
          go_wp2_with (at_builtin; refine Lib.wpList_append_run _ rfl _ _ _ _ rfl _ _ rfl rfl _ _ hr3 ?_)
          go_at_call 16
          refine HLF2.out.mono ?_
          rintro e w4 ⟨rfl, hc4⟩
          have c24 := hc3.nil_trans hc4
          have c04 := hc2.nil_trans c24
          obtain ⟨v5, w5, hr5, hO5, hc5, hob5⟩ := (HO2.out.chg c24 (by simp)).push x HLI.out (by omega) c04.size 23
          obtain ⟨t', hA2⟩ := HFIN.out w4 c24 v5 w5 hO5 hc5 hob5
          have HA2 := Lib.hid hA2
          clear hA2 hO5 hc5 hob5 hr3 HFIN HO2
          go_wp2_with (at_builtin; refine Lib.wpList_append_run _ rfl _ _ _ _ rfl _ _ rfl rfl _ _ hr5 ?_)
          go_roundg (ds.length - (k + 1))
          case measure => rw [HG.out]; omega
          case rel => exact ⟨k + 1, t', by omega, rfl, by go_num, HA2.out⟩
        · obtain rfl : k = ds.length := by omega
          obtain ⟨hT, hO, _⟩ := hA
          rw [List.take_length] at hT hO
          have hkr := hk.chg0 hT.chg
          have hll : (ds.map (leafA wd)).length ≤ 3000 := by rw [List.length_map]; exact hdn
          generalize ds.map (leafA wd) = la at *
          obtain ⟨_, va, vcap, hveq, _⟩ := hO.hs
          subst hveq
          have hof := of_calls wr wd hwd _ la hO.hs (by omega) hkr
          have hch := hT.chg
          have HT := Lib.hid hT
          have HK := Lib.hid hkr
          clear hT hO hkr hk hg hr
          go_wp2_with fail
          go_at_call 17
          refine hof.mono ?_
          rintro e w6 ⟨u, tu, rfl, hTu⟩
          have hTt := HT.out.chg0 hTu.chg
          have hk6 := HK.out.chg0 hTu.chg
          have hra := hTt.rootCall hk6 (by omega)
          have hrb := fun (W : World) (hc : Chg [] w6 W) => (hTu.chg0 hc).rootCall (hk6.chg0 hc) (by omega)
          have hpa := fun (W : World) (hc : Chg [] w6 W) => (hTt.chg0 hc).peaksCall (by omega)
          have hpb := fun (W : World) (hc : Chg [] w6 W) => (hTu.chg0 hc).peaksCall (by omega)
          have hX := hTt.rootIs
          have hc6 := hch.nil_trans hTu.chg
          have hpl : (peaksV wd la).length ≤ 63 := by unfold peaksV; rw [List.length_map]; exact pkL_len _ 63
          generalize rootL wd la = X at *
          generalize peaksV wd la = pks at *
          have hX1 := hX.1
          have hX2 := hX.one
          have qX : eqH X X = true := eqH_self
          have HRA := Lib.hid hra
          have HRB := Lib.hid hrb
          have HPA := Lib.hid hpa
          have HPB := Lib.hid hpb
          have HK2 := Lib.hid hk6
          clear hra hrb hpa hpb hTt hTu hof hk6 HT HK
          go_wp2_with fail
          go_at_call 18
          refine HRA.out.mono ?_
          rintro e w13 ⟨rfl, hc13⟩
          go_wp2_with fail
          go_at_call 18
          refine (HRB.out _ hc13).mono ?_
          rintro e w14 ⟨rfl, hc14⟩
          have c14 := hc13.nil_trans hc14
          go_wp2_with fail
          go_at_call 19
          refine (HPA.out _ c14).mono ?_
          rintro e w15 ⟨v15, rfl, hO15, hc15⟩
          have c15 := c14.nil_trans hc15
          go_wp2_with fail
          go_at_call 19
          refine (HPB.out _ c15).mono ?_
          rintro e w16 ⟨v16, rfl, hO16, hc16⟩
          have c16 := c15.nil_trans hc16
          have hsame := same_calls w16 v15 v16 pks (hO15.chg hc16 (by simp)).hs hO16.hs (by omega)
          have HSM := Lib.hid hsame
          clear hsame hO15 hO16
          go_wp2_with fail
          go_at_call 11
          refine HSM.out.mono ?_
          rintro e w17 ⟨rfl, hc17⟩
          have c17 := c16.nil_trans hc17
          have haw := awake_calls w17 (HK2.out.chg0 c17)
          have HAW := Lib.hid haw
          clear haw
          go_wp2_with fail
          go_at_call 13
          refine HAW.out.mono ?_
          rintro e w18 ⟨rfl, hc18⟩
          go_wp2
          go_ret
          exact ⟨rfl, hc6.nil_trans (c17.nil_trans hc18)⟩
end Go.Proofs.YtogkfjljdmbogaaDoor
