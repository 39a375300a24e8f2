/- Texts put into one by pack.py: LwDa R3D MpI MpJ. -/
import Derived.Deep.Slices
import Derived.ProofKit
import Derived.OpenShut
import Derived.SizedLaws
import GoSem.ClaimJoined
import Derived.Test.YtpklkefnmoaaaaaGreatDoorPkL
import Derived.Test.YtpklkefnmoaaaaaGreatDoorLwAwp
import Derived.Test.YtpklkefnmoaaaaaGreatDoorPkK
import Derived.Test.YtpklkefnmoaaaaaGreatDoorPkF
import Derived.Test.YtpklkefnmoaaaaaGreatDoorPkI
/- Data among the arguments; Add walked; MmrData walked. -/
namespace Go.Proofs.YtpklkefnmoaaaaaGreatDoor
open Go.RowKit
set_option linter.unusedVariables false
set_option linter.unusedSimpArgs false

def leafA (wd : Int) (d : List Nat) : Array Value := hV (leafN wd d)
theorem leafA_is (wd : Int) {d : List Nat} (hd : ∀ x ∈ d, x < 256) : IsHash (leafA wd d) := by
  have h := sum_ok wd (0 :: d) (by intro x hx; simp only [List.mem_cons] at hx; rcases hx with rfl | hx; exact (by decide); exact hd x hx)
  exact hV_is _ h.1 h.2
theorem leafA_width (w : Int) (d : List Nat) : leafA (widthI w) d = leafA w d := by unfold leafA leafN; rw [sum_width (widthN_I w)]
theorem leafA_calls (w : World) (wd : Int) (v : Value) (d : List Nat) (hv : BsIs w v d) (hl : d.length ≤ 1000000000) (hk : HIs w) : Calls Tryz.prog 168 #[.int .i64 wd, v] w (Res w [] (.agg (leafA wd d))) := leaf_calls w wd v d hv hl hk
theorem TreeApp.back {w0 w w1 w2 : World} {b : Nat} {t : TS} {wd : Int} {ls : List (Array Value)} {x : Array Value} {e : Ending} (hc : Chg [] w w1) (h : TreeApp w0 w1 b t wd ls x e w2) : TreeApp w0 w b t wd ls x e w2 := by
  obtain ⟨he, t', h1, h2, h3⟩ := h
  have hs := hc.size
  refine ⟨he, t', h1, hc.of_nil.trans h2 (fun k hk => .inl hk), fun k hk => ?_⟩
  rcases h3 k hk with q | q
  · exact .inl q
  · right; omega
set_option maxRecDepth 100000 in
theorem TreeOf.addCall {w0 w : World} {b : Nat} {t : TS} {wd : Int} {ls : List (Array Value)} (h : TreeOf w0 w b t wd ls) {v : Value} {d : List Nat} (hv : BsIs w v d) (hd : d.length ≤ 1000000000) (hk : HIs w) (hl : ls.length ≤ 1000000) :
    Calls Tryz.prog 83 #[.pointer (some ⟨b, 0, none⟩), v] w (TreeApp w0 w b t wd ls (leafA wd d)) := by
  have c1 : w.cell? ⟨b, 1, none⟩ = some (.int .i64 (widthI wd)) := by
    have := blk_cell h.tr.mem 1 rfl
    rwa [h.wdE] at this
  have hb := blk_lt h.tr.mem
  have hlf := leafA_calls w (widthI wd) v d hv hd hk
  have hli := leafA_is wd hv.1
  rw [leafA_width] at hlf
  have hap := fun (W : World) (hc : Chg [] w W) => (h.chg0 hc).call hli (hk.chg0 hc) hl
  have HA := Lib.hid hap
  obtain ⟨a, cap, rfl⟩ : ∃ a cap, v = .slice a d.length cap := by obtain ⟨h1, a, cap, hv, _⟩ := hv; exact ⟨a, cap, hv⟩
  clear hap hli hv h hk
  generalize leafA wd d = x at *
  generalize widthI wd = wi at *
  go_enter Tryz.func83, Tryz.ntmps83
  go_wp2_with (first
    | (go_at_call 168; refine hlf.mono ?_; rintro e w1 ⟨rfl, hc1⟩)
    | (go_at_call 21; refine (HA.out _ hc1).mono ?_; intro e w2 hp; obtain ⟨he, hr⟩ := hp; subst he))
  go_ret
  exact TreeApp.back hc1 ⟨rfl, hr⟩
/-- Lists of bytes that came in. -/
def DsIs (w : World) (v : Value) (ds : List (List Nat)) : Prop :=
  ∃ a cap, v = .slice a ds.length cap ∧ (ds = [] ∨ ∃ b o, a = some ⟨b, o, none⟩ ∧ b < w.heap.size ∧ ∀ i (hi : i < ds.length), ∃ s, w.cell? ⟨b, o + i, none⟩ = some s ∧ BsIs w s ds[i])
def weighD (ds : List (List Nat)) (k : Nat) : Nat := ((ds.take k).map fun d => 1 + d.length).sum
theorem weighD_succ (ds : List (List Nat)) (k : Nat) (h : k < ds.length) : weighD ds (k + 1) = weighD ds k + (1 + ds[k].length) := by
  unfold weighD
  rw [List.take_succ_eq_append_getElem h, List.map_append, List.sum_append]
  simp
theorem weighD_le (ds : List (List Nat)) : ∀ k, k ≤ ds.length → k ≤ weighD ds k
  | 0, _ => Nat.zero_le _
  | k + 1, h => by rw [weighD_succ ds k h]; have := weighD_le ds k (by omega); omega
theorem weighD_mono (ds : List (List Nat)) {i j : Nat} (hij : i ≤ j) (hj : j ≤ ds.length) : weighD ds i ≤ weighD ds j := by
  induction j with
  | zero => obtain rfl : i = 0 := by omega
            exact Nat.le_refl _
  | succ j ih =>
    rcases Nat.lt_or_ge i (j + 1) with q | q
    · have := ih (by omega) (by omega)
      rw [weighD_succ ds j hj]; omega
    · obtain rfl : i = j + 1 := by omega
      exact Nat.le_refl _
/-- The loop over the data. -/
structure DatI (w wr : World) (b k : Nat) (t : TS) (wd : Int) (v : Value) (ds : List (List Nat)) : Prop where
  tr : TreeOf w wr b t wd ((ds.take k).map (leafA wd))
  own : HOwn wr w.heap.size v ((ds.take k).map (leafA wd))
  apart : ∀ x ∈ ob v, x ∉ t.foot b
theorem DatI.next {w wr W w2 w3 w5 : World} {b k : Nat} {t : TS} {wd : Int} {v v5 : Value} {ds : List (List Nat)} {e : Ending} (h : DatI w wr b k t wd v ds) (hk : k < ds.length) (hW : Chg [] wr W)
    (ha : TreeApp w W b t wd ((ds.take k).map (leafA wd)) (leafA wd ds[k]) e w2) :
    e = .returned (.int .u64 k) ∧ Chg [] w w2 ∧ HOwn w2 w.heap.size v ((ds.take k).map (leafA wd)) ∧
      (∀ w3, Chg [] w2 w3 → ∀ v5 w5, HOwn w5 w.heap.size v5 ((ds.take k).map (leafA wd) ++ [leafA wd ds[k]]) → Chg (ob v) w3 w5 → (∀ x ∈ ob v5, x ∈ ob v ∨ w3.heap.size ≤ x) → ∃ t', DatI w w5 b (k + 1) t' wd v5 ds) := by
  obtain ⟨he, t', h1, h2, h3⟩ := ha
  have htl : ((ds.take k).map (leafA wd)).length = k := by rw [List.length_map, List.length_take]; omega
  have htk : (ds.take k).map (leafA wd) ++ [leafA wd ds[k]] = (ds.take (k + 1)).map (leafA wd) := by rw [List.take_succ_eq_append_getElem hk, List.map_append]; rfl
  have hol := own_lt h.own.1
  have hown := (h.own.chg hW (by simp)).chg h2 (fun x hx hm => h.apart x hx hm)
  have hws := hW.size
  have hap : ∀ x ∈ ob v, x ∉ t'.foot b := fun x hx hm => by
    rcases h3 x hm with q | q
    · exact h.apart x hx q
    · have := (hol x hx).2; omega
  refine ⟨by rw [he, htl], h1.chg, hown, fun w3 hc3 v5 w5 h5 hc5 hob => ?_⟩
  have hl1 := h1.tr.lt
  refine ⟨t', ?_, ?_, ?_⟩
  · rw [← htk]
    exact (h1.chg0 hc3).chgF hc5 (fun x hx hm => hap x hm hx) ((h1.chg.nil_trans hc3).trans hc5 (fun x hx => .inr (hol x hx).1))
  · rw [← htk]; exact h5
  · intro x hx hm
    rcases hob x hx with q | q
    · exact hap x q hm
    · have := hl1 x hm; have := hc3.size; omega
theorem BOwn.empty (w : World) (B : Nat) (hB : B ≤ w.heap.size) : BOwn (w.alloc (.cells #[] 5)) B (.slice (some ⟨w.heap.size, 0, none⟩) 0 0) [] :=
  own_new w B 5 1 0 #[] hB rfl (by decide)
/-- A copy of bytes: 'append([]byte{}, d...)'. -/
theorem copy_bytes (w : World) {s : Value} {d : List Nat} (hs : BsIs w s d) (hd : d.length ≤ 1000000000) : ∃ v' w', (Builtin.append_ #[37, 37] 37 #[.slice (some ⟨w.heap.size, 0, none⟩) 0 0, s]).run Tryz.prog (w.alloc (.cells #[] 5)) = .ok v' w' ∧ BsIs w' v' d ∧ Chg [] w w' := by
  obtain ⟨v', w', hr, h1, h2, h3⟩ := BsIs.append (BOwn.empty w w.heap.size (Nat.le_refl _)) (hs.chg0 ((Chg.refl [] w).alloc (.cells #[] 5))) (by simp; omega) (by simp) 37
  rw [List.nil_append] at h1
  exact ⟨v', w', hr, h1.bs hs.1, ((Chg.refl [] w).alloc _).trans h2 (fun k hk => .inr (by rw [ob_some] at hk; simp at hk; omega))⟩
/-! The data among the arguments, opened. -/
theorem weights_all {H : Type} {P : Program} {e : TypeId} : ∀ (l : List (DataW H)) (d : DataW H), d ∈ l → ∀ n ∈ d.weights P e, n ∈ DataW.weightsAll P e l
  | [], d, h, _, _ => by simp at h
  | c :: l, d, h, n, hn => by
    unfold DataW.weightsAll
    rcases List.mem_cons.1 h with rfl | h
    · exact List.mem_append.2 (.inl hn)
    · exact List.mem_append.2 (.inr (weights_all l d h n hn))
section
variable {H : Type} {enc : TypeId × Value → H} {W : World} {base : Nat} {spare : Nat → Bool} {held : Bool}
theorem u_bytess : Tryz.prog.underlying 236 = some (.slice 37) := by kernel_rfl
theorem u_bytesD : Tryz.prog.underlying 37 = some (.slice 5) := by kernel_rfl
theorem u_u8D : Tryz.prog.underlying 5 = some (.int .u8) := by kernel_rfl
theorem c_u8D : Tryz.prog.cellsOf 5 = 1 := by kernel_rfl
theorem c_bytesD : Tryz.prog.cellsOf 37 = 1 := by kernel_rfl
theorem b_u8D : Tryz.prog.bytesOf 5 = 1 := by kernel_rfl
theorem open_bytes {fuel : Nat} {cs : List Value} {x : DataW H × List MemPlace} (h : DataW.trod enc Tryz.prog W base spare held fuel 37 cs = some x) (hw : ∀ n ∈ x.1.weights Tryz.prog 37, n ≤ reachBytes) :
    ∃ s d, cs = [s] ∧ BsIs W s d ∧ d.length ≤ reachBytes := by
  rcases Deep.open_slice1 u_bytesD c_u8D h with ⟨hc, _⟩ | ⟨a', len', cap', m, n, V, D, Pl, hcs, _, hle, hmx, hm, hxe, hx⟩
  · exact ⟨_, [], hc, BsIs.nil W, Nat.zero_le _⟩
  · have hlm : len' ≤ m := by rw [hm]; split <;> omega
    obtain ⟨f, hf⟩ := Deep.choose_lt (α := Nat) (n := len') (p := fun i c => c < 256 ∧ W.cell? (a'.add i) = some (.int .u8 (c : Int))) (by
      intro i hi
      obtain ⟨h1, h2⟩ := hx i (by omega)
      obtain ⟨z, e1, _, e3⟩ := DataW.trod_int u_u8D h2
      simp [Lit.wf, IntKind.min, IntKind.max, IntKind.signed, IntKind.bits] at e3
      simp at e1
      refine ⟨z.toNat, by omega, ?_⟩
      rw [h1, e1]
      congr 2
      omega)
    refine ⟨_, (List.range len').map f, hcs, ⟨?_, some a', cap', by simp, by simpa using hle, hmx, ?_⟩, ?_⟩
    · intro c hc
      obtain ⟨i, hi, rfl⟩ := List.mem_map.1 hc
      exact (hf i (List.mem_range.1 hi)).1
    · by_cases h0 : len' = 0
      · left; simp [h0]
      · right
        obtain ⟨b, o, sp⟩ := a'
        have h1 := (hf 0 (by omega)).2
        have hsp : sp = none := by simpa [Addr.add] using World.cell?_spot h1
        subst hsp
        refine ⟨b, o, rfl, by simpa [Addr.add] using World.block_lt_of_cell? _ _ h1, ?_⟩
        intro i hi
        simp at hi
        simp only [List.getElem_map, List.getElem_range]
        have := (hf i hi).2
        rw [Addr.add_mid] at this
        exact this
    · have := hw ((len' + (m - len')) * 1) (by
        rw [hxe]
        unfold DataW.weights
        rw [u_bytesD]
        simp [b_u8D])
      simp
      omega
theorem open_datas {fuel : Nat} {a : Option Addr} {len cap : Nat} {x : DataW H × List MemPlace} (h : DataW.trod enc Tryz.prog W base spare held fuel 236 [.slice a len cap] = some x) (hw : ∀ n ∈ x.1.weights Tryz.prog 236, n ≤ reachBytes) :
    ∃ ds, DsIs W (.slice a len cap) ds ∧ ∀ d ∈ ds, d.length ≤ reachBytes := by
  rcases Deep.open_slice u_bytess h with ⟨hc, _⟩ | ⟨a', len', cap', m, n, D, Pl, hcs, _, hle, _, hm, hxe, hx⟩
  · simp at hc
    obtain ⟨rfl, rfl, rfl⟩ := hc
    exact ⟨[], ⟨none, 0, rfl, .inl rfl⟩, by simp⟩
  · simp at hcs
    obtain ⟨rfl, rfl, rfl⟩ := hcs
    have hlm : len ≤ m := by rw [hm]; split <;> omega
    obtain ⟨f, hf⟩ := Deep.choose_lt (α := List Nat) (n := len) (p := fun i d => d.length ≤ reachBytes ∧ ∃ s, W.cell? (a'.add i) = some s ∧ BsIs W s d) (by
      intro i hi
      obtain ⟨cs', h1, h2⟩ := hx i (by omega)
      rw [c_bytesD, Nat.mul_one] at h1
      obtain ⟨_, h3, h4⟩ := World.cells?_some h1
      obtain ⟨s, d, rfl, hb, hd⟩ := open_bytes h2 (fun q hq => hw q (by
        rw [hxe]
        unfold DataW.weights
        rw [u_bytess]
        exact List.mem_cons_of_mem _ (List.mem_append.2 (.inl (weights_all _ _ (List.mem_map.2 ⟨i, List.mem_range.2 hi, rfl⟩) q hq)))))
      refine ⟨d, hd, s, ?_, hb⟩
      have := h4 0 (by omega)
      simpa [Addr.add] using this)
    refine ⟨(List.range len).map f, ⟨some a', cap, by simp, ?_⟩, ?_⟩
    · by_cases h0 : len = 0
      · left; simp [h0]
      · right
        obtain ⟨b, o, sp⟩ := a'
        obtain ⟨_, s, h1, _⟩ := hf 0 (by omega)
        have hsp : sp = none := by simpa [Addr.add] using World.cell?_spot h1
        subst hsp
        refine ⟨b, o, rfl, by simpa [Addr.add] using World.block_lt_of_cell? _ _ h1, ?_⟩
        intro i hi
        simp at hi
        simp only [List.getElem_map, List.getElem_range]
        obtain ⟨_, s, h1, h2⟩ := hf i hi
        rw [Addr.add_mid] at h1
        exact ⟨s, h1, h2⟩
    · intro d hd
      obtain ⟨i, hi, rfl⟩ := List.mem_map.1 hd
      exact (hf i (List.mem_range.1 hi)).1
end
theorem reach_lt : reachBytes ≤ 140737488355328 := by decide
end Go.Proofs.YtpklkefnmoaaaaaGreatDoor

/- The document's Peaks walked. -/
namespace Go.Proofs.YtpklkefnmoaaaaaGreatDoor
open Go.RowKit
set_option linter.unusedVariables false
set_option linter.unusedSimpArgs false
theorem spC_cons (x : Nat × Nat) (l : List (Nat × Nat)) : spC (x :: l) = .int .u8 (x.1 : Int) :: .int .u64 (x.2 : Int) :: spC l := rfl
theorem spC_at : ∀ (l : List (Nat × Nat)) (i : Nat) (hi : i < l.length), (spC l)[i * 2]? = some (.int .u8 (l[i].1 : Int)) ∧ (spC l)[i * 2 + 1]? = some (.int .u64 (l[i].2 : Int))
  | [], i, h => by simp at h
  | x :: l, 0, h => by rw [spC_cons]; exact ⟨rfl, rfl⟩
  | x :: l, i + 1, h => by
    have := spC_at l i (by simpa using h)
    rw [spC_cons, show (i + 1) * 2 = i * 2 + 2 from by omega]
    simpa using this
theorem SpOwn.cells {w : World} {B : Nat} {v : Value} {l : List (Nat × Nat)} (h : SpOwn w B v l) : ∃ a cap, v = .slice a l.length cap ∧ (l = [] ∨ ∃ b, a = some ⟨b, 0, none⟩ ∧ b < w.heap.size ∧ ∀ i (hi : i < l.length), w.cell? ⟨b, i * 2, none⟩ = some (.int .u8 (l[i].1 : Int)) ∧ w.cell? ⟨b, i * 2 + 1, none⟩ = some (.int .u64 (l[i].2 : Int))) := by
  rcases h.2 with ⟨rfl, h0⟩ | ⟨g, cap, cur, rfl, hb, hh, hnc, hm, hcs, ht⟩
  · have : l = [] := List.eq_nil_of_length_eq_zero h0
    subst this
    exact ⟨none, 0, rfl, .inl rfl⟩
  · refine ⟨_, cap, rfl, .inr ⟨g, rfl, blk_lt hh, fun i hi => ?_⟩⟩
    obtain ⟨e1, e2⟩ := spC_at l i hi
    rw [← ht, List.getElem?_take_of_lt (by omega)] at e1 e2
    exact ⟨blk_cell hh _ (by simpa using e1), blk_cell hh _ (by simpa using e2)⟩
theorem peaks_tops (n : Nat) : peaksN n = (topsN n).map fun x => pk n x.1 := by
  unfold peaksN topsN pkL toL
  rw [List.map_map]
  rfl
theorem tops_mem {n : Nat} {x : Nat × Nat} (h : x ∈ topsN n) : x.1 ≤ 62 ∧ n / 2 ^ x.1 % 2 = 1 ∧ x.2 = n / 2 ^ x.1 - 1 := by
  unfold topsN toL at h
  obtain ⟨h', h1, rfl⟩ := List.mem_map.1 h
  obtain ⟨h2, h3⟩ := List.mem_filter.1 h1
  obtain ⟨j, _, rfl⟩ := List.mem_map.1 h2
  exact ⟨by simp only; omega, by simpa using h3, rfl⟩
set_option maxRecDepth 100000 in
set_option maxHeartbeats 4000000 in
theorem r3peaks_calls (n : Nat) (hn : n ≤ 4611686018427387904) (w : World) : Calls Tryz.prog 111 #[.int .u64 n] w (PeaksP w (peaksN n)) := by
  have htop := fun W => r3tops_calls n hn W
  have hlen : (topsN n).length ≤ 63 := toL_le n 63
  have hpt := peaks_tops n
  have hpl : ∀ x ∈ topsN n, ∀ W, Calls Tryz.prog 133 #[.agg #[.int .u8 (x.1 : Int), .int .u64 (x.2 : Int)]] W (Res W [] (.tuple #[.int .u64 (pk n x.1 : Nat), .bool true])) := by
    intro x hx W
    obtain ⟨h1, h2, h3⟩ := tops_mem hx
    have hq1 : 1 ≤ n / 2 ^ x.1 := Nat.pos_of_ne_zero (by intro e; rw [e] at h2; simp at h2)
    have hpw : 2 ^ (62 - x.1) * 2 ^ x.1 = 4611686018427387904 := by rw [← Nat.pow_add, Nat.sub_add_cancel h1]
    have hle := Nat.div_mul_le_self n (2 ^ x.1)
    have hk : n / 2 ^ x.1 ≤ 2 ^ (62 - x.1) := by
      have : n / 2 ^ x.1 * 2 ^ x.1 ≤ 2 ^ (62 - x.1) * 2 ^ x.1 := by rw [hpw]; omega
      exact Nat.le_of_mul_le_mul_right this (Nat.two_pow_pos _)
    have := r3place_calls x.1 x.2 h1 (by omega) W
    rw [h3, show n / 2 ^ x.1 - 1 + 1 = n / 2 ^ x.1 from by omega] at this
    rw [h3]
    exact this
  go_enter Tryz.func111, Tryz.ntmps111
  go_wp2_with (go_at_call 131; refine (htop _).mono ?_; rintro e w1 ⟨tv, rfl, hT, hc1⟩; obtain ⟨ta, tcap, rfl, htc⟩ := hT.cells)
  clear htop hT
  obtain ⟨w0, rfl⟩ : ∃ w0 : World, w0 = w := ⟨_, rfl⟩
  have hplen : (peaksN n).length = (topsN n).length := by rw [hpt, List.length_map]
  go_loopg [3, 5] (topsN n).length (fun g vv ii wx => ∃ i : Nat, i ≤ (topsN n).length ∧ g = (topsN n).length - i ∧ ii = .int .i64 i ∧ UOwn wx w1.heap.size vv ((peaksN n).take i) ∧ Chg [] w1 wx)
  case atStart => exact ⟨0, by omega, by omega, rfl, UOwn.nil _ _, Chg.refl _ _⟩
  case round =>
    obtain ⟨i, hi, hg, rfl, hO, hC⟩ := hrel
    by_cases hlt : i < (topsN n).length
    · have hlt' : i < (topsN n).length := hlt
      rcases htc with htc | ⟨pb, rfl, hpb, htc⟩
      · rw [htc] at hlt'; simp at hlt'
      obtain ⟨q1, q2⟩ := htc i hlt'
      have c1 := (hC.cell (p := ⟨pb, i * 2, none⟩) hpb (by simp)).trans q1
      have c2 := (hC.cell (p := ⟨pb, i * 2 + 1, none⟩) hpb (by simp)).trans q2
      have hbl : pb < wr.heap.size := Nat.lt_of_lt_of_le hpb hC.size
      have hp := hpl _ (List.getElem_mem hlt')
      have htk : (peaksN n).take (i + 1) = (peaksN n).take i ++ [pk n (topsN n)[i].1] := by
        rw [List.take_succ_eq_append_getElem (by rw [hplen]; exact hlt')]
        congr 2
        have : (peaksN n)[i]? = ((topsN n).map fun x => pk n x.1)[i]? := by rw [hpt]
        rw [List.getElem?_eq_getElem (by rw [hplen]; exact hlt'), List.getElem?_map, List.getElem?_eq_getElem hlt'] at this
        exact Option.some.inj this
      have HTK := Lib.hid htk
      have HG := Lib.hid hg
      have htl : ((peaksN n).take i).length ≤ 63 := by rw [List.length_take]; omega
      clear htk hpl htc q1 q2 hpt hplen hg
      generalize pk n (topsN n)[i].1 = pp at *
      generalize (topsN n)[i] = x at *
      go_upto_region 7 with (go_at_call 133; refine (hp _).mono ?_; rintro e w3 ⟨rfl, hc3⟩)
      have hO1 : UOwn w3 w1.heap.size _ _ := own_chg hO hc3 (by simp)
      obtain ⟨v2, w2, hrun, hO2, hc2, hob⟩ := hO1.push pp (by omega) (by have := hC.size; have := hc3.size; omega) 44
      have hol := own_lt hO1
      have HW : Chg [] w1 w2 := (hC.nil_trans hc3).trans hc2 (fun k hk => .inr (hol k hk).1)
      have HO2 := Lib.hid hO2
      clear hO hO1 hol hob hc2 hc3 hp hO2
      go_wp2_with (at_builtin; refine Lib.wpList_append_run _ rfl _ _ _ _ rfl _ _ rfl rfl _ _ hrun ?_)
      go_roundg ((topsN n).length - (i + 1))
      case measure => rw [HG.out]; omega
      case rel => exact ⟨i + 1, by omega, rfl, by go_num, by rw [HTK.out]; exact HO2.out, HW⟩
    · obtain rfl : i = (topsN n).length := by omega
      have hO2 := hO
      rw [← hplen, List.take_length] at hO2
      clear hg hpl htc hpt hplen
      go_wp2
      go_ret
      exact ⟨_, rfl, own_mono hO2 hc1.size, hc1.nil_trans hC⟩
end Go.Proofs.YtpklkefnmoaaaaaGreatDoor

/- The trees' small functions: Store, Width, the document's Leaf, Add, New; peak. -/
namespace Go.Proofs.YtpklkefnmoaaaaaGreatDoor
open Go.RowKit
set_option linter.unusedVariables false
set_option linter.unusedSimpArgs false
theorem tstore_calls (w : World) (b : Nat) (t : TS) (ht : TrIs w b t) : Calls Tryz.prog 16 #[.pointer (some ⟨b, 0, none⟩)] w (Res w [] (.pointer (some ⟨t.sb, 0, none⟩))) := by
  have c0 := blk_cell ht.mem 0 rfl
  have hb := blk_lt ht.mem
  go_enter Tryz.func16, Tryz.ntmps16
  go_wp2
  go_ret
  exact ⟨rfl, Chg.refl _ _⟩
theorem twidth_calls (w : World) (b : Nat) (t : TS) (ht : TrIs w b t) : Calls Tryz.prog 101 #[.pointer (some ⟨b, 0, none⟩)] w (Res w [] (.int .i64 t.wd)) := by
  have c1 := blk_cell ht.mem 1 rfl
  have hb := blk_lt ht.mem
  go_enter Tryz.func101, Tryz.ntmps101
  go_wp2
  go_ret
  exact ⟨rfl, Chg.refl _ _⟩
set_option maxRecDepth 100000 in
theorem r2leaft_calls (w : World) (v : Value) (d : List Nat) (hv : BsIs w v d) (hl : d.length ≤ 1000000) : Calls Tryz.prog 213 #[v] w (TextR w (0 :: d)) := by
  obtain ⟨a, cap, rfl⟩ : ∃ a cap, v = .slice a d.length cap := by obtain ⟨h1, a, cap, hv, _⟩ := hv; exact ⟨a, cap, hv⟩
  have k0 : Chg [] w (w.alloc (.cells #[.int .u8 0] 5)) := (Chg.refl _ _).alloc _
  have h0 : BOwn (w.alloc (.cells #[.int .u8 0] 5)) w.heap.size (.slice (some ⟨w.heap.size, 0, none⟩) 1 1) [0] := own_new w w.heap.size 5 1 1 #[.int .u8 0] (Nat.le_refl _) rfl (by unfold maxLen; omega)
  obtain ⟨v1, w1, hr1, q1, c1, b1⟩ := BsIs.append h0 (hv.chg0 k0) (by simp; omega) k0.size 37
  have k1 : Chg [] w w1 := k0.trans c1 (fun j hj => .inr (own_lt h0 j hj).1)
  have hfin : TextR w (0 :: d) (.returned v1) w1 := by
    refine ⟨_, rfl, ?_, k1⟩
    have := q1.bs (by
      intro x hx
      simp only [List.mem_append, List.mem_singleton] at hx
      rcases hx with rfl | h
      · decide
      · exact hv.1 x h)
    simpa using this
  have HF := Lib.hid hfin
  clear hfin q1 c1 b1 k1 h0 k0 hv
  go_enter Tryz.func213, Tryz.ntmps213
  go_wp2_with (at_builtin; refine Lib.wpList_append_run _ rfl _ _ _ _ rfl _ _ rfl rfl _ _ hr1 ?_)
  go_ret
  exact HF.out
set_option maxRecDepth 100000 in
theorem r2leaf_calls (w : World) (wd : Int) (v : Value) (d : List Nat) (hv : BsIs w v d) (hl : d.length ≤ 1000000) : Calls Tryz.prog 169 #[.int .i64 wd, v] w (Res w [] (.agg (leafA wd d))) := by
  obtain ⟨a, cap, rfl⟩ : ∃ a cap, v = .slice a d.length cap := by obtain ⟨h1, a, cap, hv, _⟩ := hv; exact ⟨a, cap, hv⟩
  have hli := leafA_is wd hv.1
  have hc0 : Chg [] w (w.alloc (.cells zeroHash 36)) := (Chg.refl _ _).alloc _
  have htx := r2leaft_calls (w.alloc (.cells zeroHash 36)) _ d (hv.chg0 hc0) hl
  have hsm : ∀ (W : World) (g : Nat) (pv : Value) (hg : W.heap[g]? = some (.cells #[pv] 37 (0, 0))) (hv : BsIs W pv (0 :: d)), Calls Tryz.prog 205 #[.int .i64 wd, .slice (some ⟨g, 0, none⟩) 1 1] W (Res W [] (.agg (leafA wd d))) := fun W g pv hg hv => r2sum1 W wd g pv _ hg hv (by simp; omega)
  have hm0 := may_alloc_at w w.heap.size 32 zeroHash 36 rfl zeroHash_size
  have hs1 := hli.1
  have hs2 := hli.one
  have HSM := Lib.hid hsm
  clear hv hli hsm
  generalize leafA wd d = x at *
  go_enter Tryz.func169, Tryz.ntmps169
  go_wp2_with fail
  go_at_call 213
  refine htx.mono ?_
  rintro e w1 ⟨v, rfl, hv, hc1⟩
  obtain ⟨va, vn, vc, rfl⟩ := hv.form
  have hm1 := may_chg hc1 hm0 (by omega) (by simp)
  have hC1 := hc0.nil_trans hc1
  have hsu := HSM.out (w1.alloc (.cells #[.slice va vn vc] 37)) w1.heap.size (.slice va vn vc) (blk_new w1 _) (hv.chg0 ((Chg.refl [] w1).alloc _))
  have hm2 : may (w1.alloc (.cells #[.slice va vn vc] 37)) w.heap.size 0 32 = true := may_chg ((Chg.refl [] w1).alloc _) hm1 (by omega) (by simp)
  clear hv htx
  go_wp2_with fail
  go_at_call 205
  refine hsu.mono ?_
  rintro e w3 ⟨rfl, hc3⟩
  have hm3 := may_chg hc3 hm2 (by omega) (by simp)
  go_wp2
  refine bodyPost_ret (res_Hash1 rfl _ _ rfl (rng?_setRng_same _ _ _ _ _ hm3 hs1)) rfl ⟨rfl, ?_⟩
  exact Chg.setRng ((hC1.alloc _).nil_trans hc3) (.inr (Nat.le_refl _)) _ _
set_option maxRecDepth 100000 in
theorem r6add_calls (w : World) (rb : Nat) (r : RT) (v : Value) (d : List Nat) (hr : RtIs w rb r) (hv : BsIs w v d) (hl : d.length ≤ 1000000) (hn : r.n < 1000000) (hlen : r.d.ns.length = nodesN r.n) :
    Calls Tryz.prog 84 #[.pointer (some ⟨rb, 0, none⟩), v] w (fun e w' => ∃ w1, Chg [] w w1 ∧ RApP w1 rb r (leafA r.wd d) e w') := by
  have c0 := blk_cell hr.mem 0 rfl
  have hb := blk_lt hr.mem
  have hlf := r2leaf_calls w r.wd v d hv hl
  have hli := leafA_is r.wd hv.1
  have hap := fun (W : World) (hc : Chg [] w W) => r6app_calls W rb r (leafA r.wd d) (hr.chg0 hc) hli hn hlen
  obtain ⟨a, cap, rfl⟩ : ∃ a cap, v = .slice a d.length cap := by obtain ⟨h1, a, cap, hv, _⟩ := hv; exact ⟨a, cap, hv⟩
  have HA := Lib.hid hap
  clear hap hli hv hr
  generalize leafA r.wd d = x at *
  go_enter Tryz.func84, Tryz.ntmps84
  go_wp2_with (first
    | (go_at_call 169; refine hlf.mono ?_; rintro e w1 ⟨rfl, hc1⟩)
    | (go_at_call 82; refine (HA.out _ hc1).mono ?_; intro e w2 hp; have he := hp.1; subst he))
  go_ret
  exact ⟨_, hc1, hp⟩
set_option maxRecDepth 100000 in
theorem tadd_calls (w : World) (b : Nat) (t : TS) (v : Value) (d : List Nat) (ht : TrIs w b t) (hv : BsIs w v d) (hl : d.length ≤ 1000000) (hk : HIs w) (hsz : t.size < 1000000) (hn : t.s.n = nodesN t.size) (ha : t.s.alive < 1000000000000) :
    Calls Tryz.prog 83 #[.pointer (some ⟨b, 0, none⟩), v] w (fun e w' => ∃ w1, Chg [] w w1 ∧ AppP w1 b t (leafA t.wd d) e w') := by
  have c1 := blk_cell ht.mem 1 rfl
  have hb := blk_lt ht.mem
  have hlf := leafA_calls w t.wd v d hv (by omega) hk
  have hli := leafA_is t.wd hv.1
  have hap := fun (W : World) (hc : Chg [] w W) => append_calls W b t (leafA t.wd d) (ht.chg0 hc) hli (hk.chg0 hc) (by omega) hn ha
  obtain ⟨a, cap, rfl⟩ : ∃ a cap, v = .slice a d.length cap := by obtain ⟨h1, a, cap, hv, _⟩ := hv; exact ⟨a, cap, hv⟩
  have HA := Lib.hid hap
  clear hap hli hv ht hk
  generalize leafA t.wd d = x at *
  go_enter Tryz.func83, Tryz.ntmps83
  go_wp2_with (first
    | (go_at_call 168; refine hlf.mono ?_; rintro e w1 ⟨rfl, hc1⟩)
    | (go_at_call 21; refine (HA.out _ hc1).mono ?_; intro e w2 hp; have he := hp.1; subst he))
  go_ret
  exact ⟨_, hc1, hp⟩
def R6NewP (w : World) (wd : Int) (log : Nat) (e : Ending) (w' : World) : Prop :=
  ∃ rb r, e = .returned (.tuple #[.pointer (some ⟨rb, 0, none⟩), .int .i64 0]) ∧ RtIs w' rb r ∧ Chg [] w w' ∧ (∀ k ∈ r.foot rb, w.heap.size ≤ k) ∧ r.wd = widthI wd ∧ r.n = 0 ∧ r.d.ns = []
theorem r6new_bad (w : World) (wd log : Int) (hl : log < 0 ∨ 16 < log) : Calls Tryz.prog 14 #[.int .i64 wd, .int .i64 log] w (Res w [] (.tuple #[.pointer none, .int .i64 1])) := by
  have hnew := rnew_bad log w hl
  go_enter Tryz.func14, Tryz.ntmps14
  go_wp2_with (go_at_call 77; refine hnew.mono ?_; rintro e w1 ⟨rfl, hc⟩)
  go_ret2
  exact ⟨rfl, hc⟩
set_option maxRecDepth 100000 in
theorem peak_calls (n p : Nat) (hn : n ≤ 4611686018427387904) (hp : p < 18446744073709551616) : ∃ B : Bool, ∀ w : World, Calls Tryz.prog 97 #[.int .u64 n, .int .u64 p] w (Res w [] (.bool B)) := by
  refine ⟨decide (p ∈ peaksN n), fun w => ?_⟩
  have hpk := r3peaks_calls n hn w
  have h64 : ∀ q ∈ peaksN n, q < 18446744073709551616 := fun q hq => by have := peaks_lt n q hq; have := nodes_lt n hn; omega
  have h63 : (peaksN n).length ≤ 63 := pkL_len n 63
  generalize peaksN n = ps at *
  go_enter Tryz.func97, Tryz.ntmps97
  go_wp2_with (go_at_call 111; refine hpk.mono ?_; rintro e w1 ⟨pv, rfl, hU, hc1⟩; obtain ⟨pa, pcap, rfl, hpc⟩ := hU.cells)
  clear hpk hU
  obtain ⟨w0, rfl⟩ : ∃ w0 : World, w0 = w := ⟨_, rfl⟩
  go_loopg [6] ps.length (fun g ii wx => ∃ i : Nat, i ≤ ps.length ∧ g = ps.length - i ∧ ii = .int .i64 i ∧ (∀ j (hj : j < ps.length), j < i → ps[j] ≠ p) ∧ Chg [] w1 wx)
  case atStart => exact ⟨0, by omega, by omega, rfl, fun j _ h => by omega, Chg.refl _ _⟩
  case round =>
    obtain ⟨i, hi, hg, rfl, hne, hC⟩ := hrel
    by_cases hlt : i < ps.length
    · have hlt' : i < ps.length := hlt
      rcases hpc with hpc | ⟨pb, po, rfl, hpb, hpc⟩
      · subst hpc; simp at hlt'
      have hcell := (hC.cell (p := ⟨pb, po + i, none⟩) hpb (by simp)).trans (hpc i hlt')
      have hbl := World.block_lt_of_cell? _ _ hcell
      have hq64 := h64 _ (List.getElem_mem hlt')
      by_cases he : ps[i] = p
      · have hmem : decide (p ∈ ps) = true := by rw [decide_eq_true_eq, ← he]; exact List.getElem_mem hlt'
        have heq : ((ps[i] : Int) == (p : Int)) = true := by rw [beq_iff_eq]; omega
        have HM := Lib.hid hmem
        clear hne hpc h64 hg hmem he
        generalize ps[i] = q at *
        go_wp2
        go_ret
        exact ⟨by rw [HM.out]; rfl, hc1.nil_trans hC⟩
      · have heq : ((ps[i] : Int) == (p : Int)) = false := by rw [beq_eq_false_iff_ne]; omega
        have hne2 : ∀ j (hj : j < ps.length), j < i + 1 → ps[j] ≠ p := fun j hj h => by
          by_cases e : j = i
          · subst e; exact he
          · exact hne j hj (by omega)
        have HN := Lib.hid hne2
        have HG := Lib.hid hg
        clear hne hpc h64 hg hne2 he
        generalize ps[i] = q at *
        go_wp2
        go_roundg (ps.length - (i + 1))
        case measure => rw [HG.out]; omega
        case rel => exact ⟨i + 1, by omega, rfl, by go_num, HN.out, hC⟩
    · obtain rfl : i = ps.length := by omega
      have hmem : decide (p ∈ ps) = false := by
        rw [decide_eq_false_iff_not]
        intro h
        obtain ⟨j, hj, e⟩ := List.getElem_of_mem h
        exact hne j hj hj e
      have HM := Lib.hid hmem
      clear hne hpc h64 hg hmem
      go_wp2
      go_ret
      exact ⟨by rw [HM.out]; rfl, hc1.nil_trans hC⟩
end Go.Proofs.YtpklkefnmoaaaaaGreatDoor

/- MmrPlays: both trees made. -/
namespace Go.Proofs.YtpklkefnmoaaaaaGreatDoor
open Go.RowKit
set_option linter.unusedVariables false
set_option linter.unusedSimpArgs false
set_option maxRecDepth 100000 in
theorem r6new_ok (w : World) (wd : Int) (log : Nat) (hl : log ≤ 16) (hwd : -9223372036854775808 ≤ wd ∧ wd < 9223372036854775808) : Calls Tryz.prog 14 #[.int .i64 wd, .int .i64 log] w (R6NewP w wd log) := by
  have hnew := rnew_ok log w hl
  have hwi := fun W => r2width_calls wd W
  go_enter Tryz.func14, Tryz.ntmps14
  go_wp2_with (first
    | (go_at_call 77; refine hnew.mono ?_; rintro e w1 ⟨c, d, rfl, h1, h2, h3, h4, h5⟩)
    | (go_at_call 78; refine (hwi _).mono ?_; rintro e w2 ⟨rfl, hw2⟩; obtain rfl : w1 = w2 := hw2.symm))
  go_ret2
  have hc : Chg [] w1 (w1.alloc (.cells #[.int .i64 (widthN wd : Nat), .int .u64 0, .pointer (some ⟨c, 0, none⟩)] 52)) := (Chg.refl _ _).alloc _
  have hwn : ((widthN wd : Nat) : Int) = widthI wd := by unfold widthN widthI; omega
  refine ⟨w1.heap.size, ⟨c, d, widthI wd, 0⟩, rfl, ⟨?_, h1.chg0 hc, fun hm => ?_⟩, h2.nil_trans hc, fun k hk => ?_, rfl, rfl, h5⟩
  · rw [← hwn]
    exact blk_new w1 _
  · have := h1.lt _ hm; omega
  · simp only [RT.foot, List.mem_cons] at hk
    have := h2.size
    rcases hk with rfl | hk
    · exact this
    · exact h3 k hk
/-- Both, just made. -/
theorem Two.new {w0 w1 w2 : World} {b rb : Nat} {t : TS} {r : RT} {wd : Int} (h1 : TrIs w1 b t) (hc1 : Chg [] w0 w1) (hf1 : ∀ k ∈ t.foot b, w0.heap.size ≤ k) (e1 : t.wd = widthI wd) (e2 : t.size = 0) (e3 : t.s.n = 0) (e4 : t.s.cks = []) (e5 : t.s.pins = [])
    (h2 : RtIs w2 rb r) (hc2 : Chg [] w1 w2) (hf2 : ∀ k ∈ r.foot rb, w1.heap.size ≤ k) (g1 : r.wd = widthI wd) (g2 : r.n = 0) (g3 : r.d.ns = []) : Two [] w0 w2 b rb t r ∧ Rel t r 0 := by
  have hp : ∀ p, t.s.pin p = 0 := fun p => by unfold SS.pin; rw [e5]; rfl
  have hn : ∀ p, t.s.node p = none := fun p => by unfold SS.node SS.look; rw [e4]; rfl
  refine ⟨⟨h1.chg0 hc2, h2, fun k hk hk2 => ?_, hc1.nil_trans hc2, fun k hk => .inr (hf1 k hk), fun k hk => .inr ?_⟩, ⟨by rw [g1, e1], by rw [g2, e2], ?_, hp, fun p => by rw [g3]; rfl, by rw [e3, e2, nodes_zero], by omega, ?_⟩⟩
  · have := h1.lt k hk
    have := hf2 k hk2
    omega
  · have := hf2 k hk; have := hc1.size; omega
  · unfold vd SS.view
    rw [g3, e3]
    congr 1
    funext p
    rw [hn]
    rfl
  · unfold SS.alive
    rw [e4]
    simp
end Go.Proofs.YtpklkefnmoaaaaaGreatDoor
