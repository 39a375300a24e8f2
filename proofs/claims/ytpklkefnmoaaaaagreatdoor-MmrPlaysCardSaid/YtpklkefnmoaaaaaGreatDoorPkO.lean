/- Texts put into one by pack.py: Nums ArgM. -/
import Derived.ProofKit
import Derived.OpenShut
import Derived.ShutString
import Derived.ChangeOld
import Derived.Deep.Slices
import Derived.Test.YtpklkefnmoaaaaaGreatDoorPkA
import Derived.Test.YtpklkefnmoaaaaaGreatDoorPkL
import Derived.Test.YtpklkefnmoaaaaaGreatDoorArgp
import Derived.Test.YtpklkefnmoaaaaaGreatDoorPkM
/- Lists of numbers that came in. -/
namespace Go.Proofs.YtpklkefnmoaaaaaGreatDoor
open Go.ChangeShapes Go.WideShapes Go.ChangeAt Go.RowKit
set_option linter.unusedVariables false
set_option linter.unusedSimpArgs false

/-- A list of numbers of a kind that came in. -/
def NsIs (k : IntKind) (w : World) (v : Value) (ns : List Int) : Prop :=
  (∀ n ∈ ns, (Lit.int k n).wf = true) ∧ ∃ a cap, v = .slice a ns.length cap ∧ (ns = [] ∨ ∃ b o, a = some ⟨b, o, none⟩ ∧ b < w.heap.size ∧ ∀ i (hi : i < ns.length), w.cell? ⟨b, o + i, none⟩ = some (.int k ns[i]))
theorem NsIs.chg {k : IntKind} {w w' : World} {v : Value} {ns : List Int} {F : List Nat} (h : NsIs k w v ns) (hc : Chg F w w') (hF : ∀ k ∈ F, w.heap.size ≤ k) : NsIs k w' v ns := by
  obtain ⟨h1, a, cap, hv, h2⟩ := h
  refine ⟨h1, a, cap, hv, ?_⟩
  rcases h2 with h2 | ⟨b, o, ha, hb, hr⟩
  · exact .inl h2
  · refine .inr ⟨b, o, ha, by have := hc.size; omega, fun i hi => ?_⟩
    rw [hc.cell (p := ⟨b, o + i, none⟩) hb (fun e => by have : w.heap.size ≤ b := hF _ e; omega)]
    exact hr i hi
theorem wf_u64 {n : Int} (h : (Lit.int .u64 n).wf = true) : 0 ≤ n ∧ n < 18446744073709551616 := by
  simp [Lit.wf, IntKind.min, IntKind.max, IntKind.signed, IntKind.bits] at h
  omega
theorem wf_i64 {n : Int} (h : (Lit.int .i64 n).wf = true) : -9223372036854775808 ≤ n ∧ n < 9223372036854775808 := by
  simp [Lit.wf, IntKind.min, IntKind.max, IntKind.signed, IntKind.bits] at h
  omega

section
variable {H : Type} {enc : TypeId × Value → H} {W : World} {base : Nat} {spare : Nat → Bool} {held : Bool}
theorem open_nums {t e : TypeId} {k : IntKind} (ht : Tryz.prog.underlying t = some (.slice e)) (he : Tryz.prog.underlying e = some (.int k)) (hc : Tryz.prog.cellsOf e = 1) {fuel : Nat} {a : Option Addr} {len cap : Nat} {x : DataW H × List MemPlace} (h : DataW.trod enc Tryz.prog W base spare held fuel t [.slice a len cap] = some x) : ∃ ns, NsIs k W (.slice a len cap) ns := by
  rcases Deep.open_slice1 ht hc h with ⟨hc, _⟩ | ⟨a', len', cap', m, n, V, D, Pl, hcs, _, hle, _, hm, _, hx⟩
  · simp at hc
    obtain ⟨rfl, rfl, rfl⟩ := hc
    exact ⟨[], by simp, none, 0, rfl, .inl rfl⟩
  · simp at hcs
    obtain ⟨rfl, rfl, rfl⟩ := hcs
    have hlm : len ≤ m := by rw [hm]; split <;> omega
    obtain ⟨f, hf⟩ := Deep.choose_lt (α := Int) (n := len) (p := fun i z => (Lit.int k z).wf = true ∧ W.cell? (a'.add i) = some (.int k z)) (by
      intro i hi
      obtain ⟨h1, h2⟩ := hx i (by omega)
      obtain ⟨z, hz, _, hw⟩ := DataW.trod_int he h2
      simp at hz
      exact ⟨z, hw, by rw [h1, hz]⟩)
    refine ⟨(List.range len).map f, ?_, some a', cap, by simp, ?_⟩
    · intro z hz
      obtain ⟨i, hi, rfl⟩ := List.mem_map.1 hz
      exact (hf i (List.mem_range.1 hi)).1
    · by_cases h0 : len = 0
      · left; simp [h0]
      · right
        obtain ⟨b, o, sp⟩ := a'
        have h1 := (hf 0 (by omega)).2
        have hsp : sp = none := by simpa [Addr.add] using World.cell?_spot h1
        subst hsp
        refine ⟨b, o, rfl, by simpa [Addr.add] using World.block_lt_of_cell? _ _ h1, ?_⟩
        intro i hi
        simp at hi
        simp only [List.getElem_map, List.getElem_range]
        have := (hf i hi).2
        rw [Addr.add_mid] at this
        exact this
end
end Go.Proofs.YtpklkefnmoaaaaaGreatDoor

/- Lists of a tree's acts among the arguments. -/
namespace Go.Proofs.YtpklkefnmoaaaaaGreatDoor
open Go.ChangeShapes Go.WideShapes Go.ChangeAt Go.RowKit
set_option linter.unusedVariables false
set_option linter.unusedSimpArgs false
instance : Inhabited AM := ⟨⟨0, #[], none, 0, [], 0, none, 0, []⟩⟩
theorem wM_all {H : Type} {P : Program} {e : TypeId} {n : Nat} : ∀ {l : List (DataW H)} {d : DataW H}, d ∈ l → n ∈ d.weights P e → n ∈ DataW.weightsAll P e l
  | [], _, h, _ => by simp at h
  | y :: r, d, h, hn => by
    simp only [DataW.weightsAll, List.mem_append]
    rcases List.mem_cons.1 h with rfl | h
    · exact .inl hn
    · exact .inr (wM_all h hn)
theorem u_ActM : Tryz.prog.underlying 41 = some (.struct (Tryz.prog.fieldsOf 41)) := by kernel_rfl
theorem actM_f0 : ((Tryz.prog.fieldsOf 41)[0]?).map (fun f => (f.type, f.offset)) = some (3, 0) := by kernel_rfl
theorem actM_f1 : ((Tryz.prog.fieldsOf 41)[1]?).map (fun f => (f.type, f.offset)) = some (36, 1) := by kernel_rfl
theorem actM_f2 : ((Tryz.prog.fieldsOf 41)[2]?).map (fun f => (f.type, f.offset)) = some (37, 33) := by kernel_rfl
theorem actM_f3 : ((Tryz.prog.fieldsOf 41)[3]?).map (fun f => (f.type, f.offset)) = some (38, 34) := by kernel_rfl
theorem actM_f4 : ((Tryz.prog.fieldsOf 41)[4]?).map (fun f => (f.type, f.offset)) = some (39, 35) := by kernel_rfl
theorem actM_fn : (Tryz.prog.fieldsOf 41).size = 5 := by kernel_rfl
theorem actM_ft2 : ((Tryz.prog.fieldsOf 41).toList.map (·.type))[2]? = some 37 := by kernel_rfl
theorem actM_ft4 : ((Tryz.prog.fieldsOf 41).toList.map (·.type))[4]? = some 39 := by kernel_rfl
theorem cM_Act : Tryz.prog.cellsOf 41 = 36 := by kernel_rfl
theorem cM_int : Tryz.prog.cellsOf 3 = 1 := by kernel_rfl
theorem cM_u64 : Tryz.prog.cellsOf 38 = 1 := by kernel_rfl
theorem cM_bytes : Tryz.prog.cellsOf 37 = 1 := by kernel_rfl
theorem cM_hashes : Tryz.prog.cellsOf 39 = 1 := by kernel_rfl
theorem uM_int : Tryz.prog.underlying 3 = some (.int .i64) := by kernel_rfl
theorem bM_Hash : Tryz.prog.bytesOf 36 = 32 := by kernel_rfl
theorem bM_Act : Tryz.prog.bytesOf 41 = 96 := by kernel_rfl
theorem uM_acts : Tryz.prog.underlying 22 = some (.slice 41) := by kernel_rfl
section
variable {H : Type} {enc : TypeId × Value → H} {W : World} {base : Nat} {spare : Nat → Bool} {held : Bool}
theorem open_actM {fuel : Nat} {cs : List Value} {y : DataW H × List MemPlace} (h : DataW.trod enc Tryz.prog W base spare held fuel 41 cs = some y) (hz : ∀ n ∈ y.1.weights Tryz.prog 41, n ≤ reachBytes) :
    ∃ x : AM, cs = x.cells.toList ∧ x.ok W ∧ x.dl.length ≤ 140737488355328 ∧ x.nl.length ≤ 140737488355328 := by
  obtain ⟨xs, n, _, rfl, hl, hxl, hf⟩ := DataW.trod_struct u_ActM h
  rw [actM_fn] at hxl
  rw [cM_Act] at hl
  have hx : ∀ i (hi : i < 5), xs[i]? = some (xs[i]'(by omega)) := fun i hi => List.getElem?_eq_getElem (by omega)
  obtain ⟨f0, hf0, e0⟩ := Option.map_eq_some_iff.1 actM_f0
  obtain ⟨f1, hf1, e1⟩ := Option.map_eq_some_iff.1 actM_f1
  obtain ⟨f2, hf2, e2⟩ := Option.map_eq_some_iff.1 actM_f2
  obtain ⟨f3, hf3, e3⟩ := Option.map_eq_some_iff.1 actM_f3
  obtain ⟨f4, hf4, e4⟩ := Option.map_eq_some_iff.1 actM_f4
  simp only [Prod.mk.injEq] at e0 e1 e2 e3 e4
  have g0 := hf 0 f0 hf0
  have g1 := hf 1 f1 hf1
  have g2 := hf 2 f2 hf2
  have g3 := hf 3 f3 hf3
  have g4 := hf 4 f4 hf4
  rw [e0.1, e0.2, cM_int, hx 0 (by omega)] at g0
  rw [e1.1, e1.2, c_HashA, hx 1 (by omega)] at g1
  rw [e2.1, e2.2, cM_bytes, hx 2 (by omega)] at g2
  rw [e3.1, e3.2, cM_u64, hx 3 (by omega)] at g3
  rw [e4.1, e4.2, cM_hashes, hx 4 (by omega)] at g4
  obtain ⟨z0, p0, _, w0⟩ := DataW.trod_int uM_int g0
  have p1 := open_hash g1
  obtain ⟨z3, p3, _, w3⟩ := DataW.trod_int u_u64 g3
  have hw2 : ∀ n ∈ (xs[2]'(by omega)).1.weights Tryz.prog 37, n ≤ reachBytes := fun n hn => by
    refine hz n ?_
    simp only [DataW.weights, u_ActM]
    exact DataW.weights_mem_each (j := 2) actM_ft2 (by rw [List.getElem?_map, hx 2 (by omega)]; rfl) n hn
  have hw4 : ∀ n ∈ (xs[4]'(by omega)).1.weights Tryz.prog 39, n ≤ reachBytes := fun n hn => by
    refine hz n ?_
    simp only [DataW.weights, u_ActM]
    exact DataW.weights_mem_each (j := 4) actM_ft4 (by rw [List.getElem?_map, hx 4 (by omega)]; rfl) n hn
  obtain ⟨sd, dl, p2, hd, hdl⟩ := open_bytes g2 hw2
  obtain ⟨da, dc, rfl⟩ : ∃ da dc, sd = .slice da dl.length dc := by obtain ⟨_, a, cap, hv, _⟩ := hd; exact ⟨a, cap, hv⟩
  have key : ∃ a len cap, (cs.drop 35).take 1 = [.slice a len cap] ∧ len ≤ 140737488355328 := by
    rcases Deep.open_slice u_hashesA g4 with ⟨hc, _⟩ | ⟨a', len', cap', m, n', D, Pl, hcs, _, hle, _, hm, hxx, _⟩
    · exact ⟨none, 0, 0, hc, by omega⟩
    · refine ⟨some a', len', cap', hcs, ?_⟩
      have := hw4 ((len' + (m - len')) * 32) (by
        rw [hxx]
        simp only [DataW.weights, u_hashesA, List.length_map, List.length_range, bM_Hash, List.mem_cons]
        exact .inl trivial)
      unfold reachBytes at this
      omega
  obtain ⟨na, nlen, nc, p4, hnlen⟩ := key
  rw [p4] at g4
  obtain ⟨nl, hnl⟩ := open_hashes g4
  obtain rfl : nlen = nl.length := by
    obtain ⟨_, a, cap, hv, _⟩ := hnl
    injection hv with q1 q2 q3
  have w0' := wf_i64 w0
  have w3' := wf_u64 w3
  refine ⟨⟨z0, ((cs.drop 1).take 32).toArray, da, dc, dl, z3.toNat, na, nc, nl⟩, ?_, ⟨p1, w0', by simp only; omega, hd, hnl⟩, by unfold reachBytes at hdl; simp only; omega, hnlen⟩
  have hz3 : ((z3.toNat : Nat) : Int) = z3 := by omega
  have e : cs = (cs.drop 0).take 1 ++ ((cs.drop 1).take 32 ++ ((cs.drop 33).take 1 ++ ((cs.drop 34).take 1 ++ (cs.drop 35).take 1))) := by
    have h35 : (cs.drop 35).take 1 = cs.drop 35 := List.take_of_length_le (by simp; omega)
    rw [h35]
    have h3 : (cs.drop 34).take 1 ++ cs.drop 35 = cs.drop 34 := by
      have := List.take_append_drop 1 (cs.drop 34)
      rwa [List.drop_drop] at this
    rw [h3]
    have h2 : (cs.drop 33).take 1 ++ cs.drop 34 = cs.drop 33 := by
      have := List.take_append_drop 1 (cs.drop 33)
      rwa [List.drop_drop] at this
    rw [h2]
    have h1 : (cs.drop 1).take 32 ++ cs.drop 33 = cs.drop 1 := by
      have := List.take_append_drop 32 (cs.drop 1)
      rwa [List.drop_drop] at this
    rw [h1, List.drop_zero, List.take_append_drop]
  refine e.trans ?_
  rw [p0, p2, p3, p4]
  simp [AM.cells, hz3]
theorem open_actsM {fuel : Nat} {a : Option Addr} {len cap : Nat} {x : DataW H × List MemPlace} (h : DataW.trod enc Tryz.prog W base spare held fuel 22 [.slice a len cap] = some x) (hz : ∀ n ∈ x.1.weights Tryz.prog 22, n ≤ reachBytes) : ∃ l, ActsM W (.slice a len cap) l := by
  rcases Deep.open_slice uM_acts h with ⟨hc, _⟩ | ⟨a', len', cap', m, n, D, Pl, hcs, _, hle, _, hm, hxx, hx⟩
  · simp at hc
    obtain ⟨rfl, rfl, rfl⟩ := hc
    exact ⟨[], by simp, by simp, none, 0, rfl, .inl rfl⟩
  · simp at hcs
    obtain ⟨rfl, rfl, rfl⟩ := hcs
    have hlm : len ≤ m := by rw [hm]; split <;> omega
    rw [hxx] at hz
    have hlen : len ≤ 140737488355328 := by
      have := hz ((len + (m - len)) * 96) (by
        simp only [DataW.weights, uM_acts, List.length_map, List.length_range, bM_Act, List.mem_cons]
        exact .inl trivial)
      unfold reachBytes at this
      omega
    obtain ⟨f, hf⟩ := Deep.choose_lt (α := AM) (n := len) (p := fun i y => (y.ok W ∧ y.dl.length ≤ 140737488355328 ∧ y.nl.length ≤ 140737488355328) ∧ ∀ j (hj : j < y.cells.size), W.cell? ((a'.add (i * 36)).add j) = some y.cells[j]) (by
      intro i hi
      obtain ⟨cs', h1, h2⟩ := hx i (by omega)
      rw [cM_Act] at h1
      obtain ⟨_, h3, h4⟩ := World.cells?_some h1
      obtain ⟨y, hy, hok, hkl⟩ := open_actM h2 (fun n' hn' => by
        refine hz n' ?_
        simp only [DataW.weights, uM_acts, List.mem_cons, List.mem_append]
        exact .inr (.inl (wM_all (List.mem_map.2 ⟨i, List.mem_range.2 hi, rfl⟩) hn')))
      refine ⟨y, ⟨hok, hkl⟩, ?_⟩
      intro j hj
      rw [h4 j (by have := hok.size; omega)]
      subst hy
      simp)
    refine ⟨(List.range len).map f, ?_, by simpa using hlen, some a', cap, by simp, ?_⟩
    · intro y hy
      obtain ⟨i, hi, rfl⟩ := List.mem_map.1 hy
      exact (hf i (List.mem_range.1 hi)).1
    · by_cases h0 : len = 0
      · left; simp [h0]
      · right
        obtain ⟨b, o, sp⟩ := a'
        have h1 := (hf 0 (by omega)).2 0 (by rw [(hf 0 (by omega)).1.1.size]; omega)
        have hsp : sp = none := by simpa [Addr.add] using World.cell?_spot h1
        subst hsp
        refine ⟨b, o, rfl, by simpa [Addr.add] using World.block_lt_of_cell? _ _ h1, ?_⟩
        intro i hi
        simp at hi
        simp only [List.getElem_map, List.getElem_range]
        refine rng?_mk (hf i hi).1.1.size ?_
        intro j hj
        have := (hf i hi).2 j hj
        rw [Addr.add_mid, Addr.add_mid] at this
        exact this
end
end Go.Proofs.YtpklkefnmoaaaaaGreatDoor
