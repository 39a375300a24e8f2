/- Lists of acts among the arguments. -/
import Derived.Test.YtonppfebmeehcaaAcW
import Derived.Test.YtonppfebmeehcaaArg
import Derived.Test.YtonppfebmeehcaaNums
import Derived.SizedLaws
namespace Go.Proofs.Ytonppfebmeehcaa
open Go.ChangeShapes Go.WideShapes Go.ChangeAt Go.RowKit
set_option linter.unusedVariables false
set_option linter.unusedSimpArgs false
instance : Inhabited AV := ⟨⟨0, 0, #[], none, 0, []⟩⟩
theorem weights_all {H : Type} {P : Program} {e : TypeId} {n : Nat} : ∀ {l : List (DataW H)} {d : DataW H}, d ∈ l → n ∈ d.weights P e → n ∈ DataW.weightsAll P e l
  | [], _, h, _ => by simp at h
  | y :: r, d, h, hn => by
    simp only [DataW.weightsAll, List.mem_append]
    rcases List.mem_cons.1 h with rfl | h
    · exact .inl hn
    · exact .inr (weights_all h hn)
theorem NsIs.rdX {w : World} {a : Option Addr} {cap n : Nat} {ns : List Int} (h : NsIs .u64 w (.slice a n cap) ns) : n = ns.length ∧ Rd w 1 a (ns.map Int.toNat).length ((ns.map Int.toNat).map fun (n : Nat) => Value.int .u64 (n : Int)) := by
  obtain ⟨h1, a', cap', hv, h2⟩ := h
  injection hv with e1 e2 e3
  subst e1 e2 e3
  refine ⟨rfl, by simp, fun h0 => ?_⟩
  rcases h2 with rfl | ⟨b, o, rfl, hb, hc⟩
  · simp at h0
  · refine ⟨b, o, rfl, fun j u hu => ?_⟩
    simp only [List.getElem?_map, List.map_map] at hu
    cases hj : ns[j]? with
    | none => rw [hj] at hu; simp at hu
    | some x =>
      obtain ⟨hjl, hjx⟩ := List.getElem?_eq_some_iff.1 hj
      rw [hj] at hu
      simp at hu
      subst hu
      have h0 := (wf_u64 (h1 x (by rw [← hjx]; exact List.getElem_mem hjl))).1
      rw [hc j hjl, hjx]
      congr 2
      omega
theorem u_ActS : Try.prog.underlying 65 = some (.struct (Try.prog.fieldsOf 65)) := by kernel_rfl
theorem act_f0 : ((Try.prog.fieldsOf 65)[0]?).map (fun f => (f.type, f.offset)) = some (3, 0) := by kernel_rfl
theorem act_f1 : ((Try.prog.fieldsOf 65)[1]?).map (fun f => (f.type, f.offset)) = some (31, 1) := by kernel_rfl
theorem act_f2 : ((Try.prog.fieldsOf 65)[2]?).map (fun f => (f.type, f.offset)) = some (30, 2) := by kernel_rfl
theorem act_f3 : ((Try.prog.fieldsOf 65)[3]?).map (fun f => (f.type, f.offset)) = some (36, 34) := by kernel_rfl
theorem act_fn : (Try.prog.fieldsOf 65).size = 4 := by kernel_rfl
theorem act_ft : ((Try.prog.fieldsOf 65).toList.map (·.type))[3]? = some 36 := by kernel_rfl
theorem c_Act : Try.prog.cellsOf 65 = 35 := by kernel_rfl
theorem c_int : Try.prog.cellsOf 3 = 1 := by kernel_rfl
theorem c_u64 : Try.prog.cellsOf 31 = 1 := by kernel_rfl
theorem c_u64s : Try.prog.cellsOf 36 = 1 := by kernel_rfl
theorem u_intA : Try.prog.underlying 3 = some (.int .i64) := by kernel_rfl
theorem b_u64 : Try.prog.bytesOf 31 = 8 := by kernel_rfl
theorem b_Act : Try.prog.bytesOf 65 = 72 := by kernel_rfl
theorem u_actsA : Try.prog.underlying 56 = some (.slice 65) := by kernel_rfl
section
variable {H : Type} {enc : TypeId × Value → H} {W : World} {base : Nat} {spare : Nat → Bool} {held : Bool}
theorem open_act {fuel : Nat} {cs : List Value} {y : DataW H × List MemPlace} (h : DataW.trod enc Try.prog W base spare held fuel 65 cs = some y) (hz : ∀ n ∈ y.1.weights Try.prog 65, n ≤ reachBytes) :
    ∃ x : AV, cs = x.cells.toList ∧ x.ok W ∧ x.kl.length ≤ 35184372088832 := by
  obtain ⟨xs, n, _, rfl, hl, hxl, hf⟩ := DataW.trod_struct u_ActS h
  rw [act_fn] at hxl
  rw [c_Act] at hl
  have hx : ∀ i (hi : i < 4), xs[i]? = some (xs[i]'(by omega)) := fun i hi => List.getElem?_eq_getElem (by omega)
  obtain ⟨f0, hf0, e0⟩ := Option.map_eq_some_iff.1 act_f0
  obtain ⟨f1, hf1, e1⟩ := Option.map_eq_some_iff.1 act_f1
  obtain ⟨f2, hf2, e2⟩ := Option.map_eq_some_iff.1 act_f2
  obtain ⟨f3, hf3, e3⟩ := Option.map_eq_some_iff.1 act_f3
  simp only [Prod.mk.injEq] at e0 e1 e2 e3
  have g0 := hf 0 f0 hf0
  have g1 := hf 1 f1 hf1
  have g2 := hf 2 f2 hf2
  have g3 := hf 3 f3 hf3
  rw [e0.1, e0.2, c_int, hx 0 (by omega)] at g0
  rw [e1.1, e1.2, c_u64, hx 1 (by omega)] at g1
  rw [e2.1, e2.2, c_HashA, hx 2 (by omega)] at g2
  rw [e3.1, e3.2, c_u64s, hx 3 (by omega)] at g3
  obtain ⟨z0, p0, _, w0⟩ := DataW.trod_int u_intA g0
  obtain ⟨z1, p1, _, w1⟩ := DataW.trod_int u_u64 g1
  have p2 := open_hash g2
  have hw3 : ∀ n ∈ (xs[3]'(by omega)).1.weights Try.prog 36, n ≤ reachBytes := fun n hn => by
    refine hz n ?_
    simp only [DataW.weights, u_ActS]
    exact DataW.weights_mem_each (j := 3) act_ft (by rw [List.getElem?_map, hx 3 (by omega)]; rfl) n hn
  have key : ∃ a len cap, (cs.drop 34).take 1 = [.slice a len cap] ∧ len ≤ 35184372088832 := by
    rcases Deep.open_slice1 u_u64s c_u64 g3 with ⟨hc, _⟩ | ⟨a', len', cap', m, n', V, D, Pl, hcs, _, hle, _, hm, hxx, _⟩
    · exact ⟨none, 0, 0, hc, by omega⟩
    · refine ⟨some a', len', cap', hcs, ?_⟩
      have := hw3 ((len' + (m - len')) * 8) (by
        rw [hxx]
        simp only [DataW.weights, u_u64s, List.length_map, List.length_range, b_u64, List.mem_cons]
        exact .inl trivial)
      unfold reachBytes at this
      omega
  obtain ⟨a, len, cap, p3, hlen⟩ := key
  rw [p3] at g3
  obtain ⟨ns, hns⟩ := open_nums u_u64s u_u64 c_u64 g3
  obtain ⟨hln, hrd⟩ := hns.rdX
  have w0' := wf_i64 w0
  have w1' := wf_u64 w1
  refine ⟨⟨z0, z1.toNat, ((cs.drop 2).take 32).toArray, a, cap, ns.map Int.toNat⟩, ?_, ⟨p2, w0', by simp only; omega, hrd, fun y hy => ?_⟩, by simp; omega⟩
  · have hz1 : ((z1.toNat : Nat) : Int) = z1 := by omega
    have e : cs = (cs.drop 0).take 1 ++ ((cs.drop 1).take 1 ++ ((cs.drop 2).take 32 ++ (cs.drop 34).take 1)) := by
      have h34 : (cs.drop 34).take 1 = cs.drop 34 := List.take_of_length_le (by simp; omega)
      rw [h34]
      have h2 : (cs.drop 2).take 32 ++ cs.drop 34 = cs.drop 2 := by
        have := List.take_append_drop 32 (cs.drop 2)
        rwa [List.drop_drop] at this
      rw [h2]
      have h1 : (cs.drop 1).take 1 ++ cs.drop 2 = cs.drop 1 := by
        have := List.take_append_drop 1 (cs.drop 1)
        rwa [List.drop_drop] at this
      rw [h1, List.drop_zero, List.take_append_drop]
    refine e.trans ?_
    rw [p0, p1, p3]
    simp [AV.cells, hz1, hln]
  · obtain ⟨z, hzm, rfl⟩ := List.mem_map.1 hy
    have := wf_u64 (hns.1 z hzm)
    omega
theorem open_acts {fuel : Nat} {a : Option Addr} {len cap : Nat} {x : DataW H × List MemPlace} (h : DataW.trod enc Try.prog W base spare held fuel 56 [.slice a len cap] = some x) (hz : ∀ n ∈ x.1.weights Try.prog 56, n ≤ reachBytes) : ∃ l, ActsIs W (.slice a len cap) l := by
  rcases Deep.open_slice u_actsA h with ⟨hc, _⟩ | ⟨a', len', cap', m, n, D, Pl, hcs, _, hle, _, hm, hxx, hx⟩
  · simp at hc
    obtain ⟨rfl, rfl, rfl⟩ := hc
    exact ⟨[], by simp, by simp, none, 0, rfl, .inl rfl⟩
  · simp at hcs
    obtain ⟨rfl, rfl, rfl⟩ := hcs
    have hlm : len ≤ m := by rw [hm]; split <;> omega
    rw [hxx] at hz
    have hlen : len ≤ 35184372088832 := by
      have := hz ((len + (m - len)) * 72) (by
        simp only [DataW.weights, u_actsA, List.length_map, List.length_range, b_Act, List.mem_cons]
        exact .inl trivial)
      unfold reachBytes at this
      omega
    obtain ⟨f, hf⟩ := Deep.choose_lt (α := AV) (n := len) (p := fun i y => (y.ok W ∧ y.kl.length ≤ 35184372088832) ∧ ∀ j (hj : j < y.cells.size), W.cell? ((a'.add (i * 35)).add j) = some y.cells[j]) (by
      intro i hi
      obtain ⟨cs', h1, h2⟩ := hx i (by omega)
      rw [c_Act] at h1
      obtain ⟨_, h3, h4⟩ := World.cells?_some h1
      obtain ⟨y, hy, hok, hkl⟩ := open_act h2 (fun n' hn' => by
        refine hz n' ?_
        simp only [DataW.weights, u_actsA, List.mem_cons, List.mem_append]
        exact .inr (.inl (weights_all (List.mem_map.2 ⟨i, List.mem_range.2 hi, rfl⟩) hn')))
      refine ⟨y, ⟨hok, hkl⟩, ?_⟩
      intro j hj
      rw [h4 j (by have := hok.size; omega)]
      subst hy
      simp)
    refine ⟨(List.range len).map f, ?_, by simpa using hlen, some a', cap, by simp, ?_⟩
    · intro y hy
      obtain ⟨i, hi, rfl⟩ := List.mem_map.1 hy
      exact (hf i (List.mem_range.1 hi)).1
    · by_cases h0 : len = 0
      · left; simp [h0]
      · right
        obtain ⟨b, o, sp⟩ := a'
        have h1 := (hf 0 (by omega)).2 0 (by rw [(hf 0 (by omega)).1.1.size]; omega)
        have hsp : sp = none := by simpa [Addr.add] using World.cell?_spot h1
        subst hsp
        refine ⟨b, o, rfl, by simpa [Addr.add] using World.block_lt_of_cell? _ _ h1, ?_⟩
        intro i hi
        simp at hi
        simp only [List.getElem_map, List.getElem_range]
        refine rng?_mk (hf i hi).1.1.size ?_
        intro j hj
        have := (hf i hi).2 j hj
        rw [Addr.add_mid, Addr.add_mid] at this
        exact this
end
end Go.Proofs.Ytonppfebmeehcaa
