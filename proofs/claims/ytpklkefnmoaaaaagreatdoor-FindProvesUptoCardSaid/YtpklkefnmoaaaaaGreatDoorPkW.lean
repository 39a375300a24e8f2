/- Texts put into one by pack.py: FdA MapEnt FdB FdC FdD FdE PvA PvD. -/
import Derived.BigRegion
import Derived.RegionTactic
import Derived.Deep.Cut
import Derived.Deep.RegionHeld3
import Derived.BigQuiet
import Derived.Deep.LoopGhost
import Derived.Lib.SliceRun
import Derived.WalkSpells
import Derived.Test.YtpklkefnmoaaaaaGreatDoorPkA
import Derived.Test.YtpklkefnmoaaaaaGreatDoorPkF
import Derived.Test.YtpklkefnmoaaaaaGreatDoorPkD
import Derived.Test.YtpklkefnmoaaaaaGreatDoorPkB
/- Hashes as a map's keys. -/
namespace Go.Proofs.YtpklkefnmoaaaaaGreatDoor
open Go.RowKit
set_option linter.unusedVariables false
set_option linter.unusedSimpArgs false

def HK : Type := {x : Array Value // IsHash x}
instance : DecidableEq HK := fun a b => decidable_of_iff (eqH a.1 b.1 = true) ((eqH_iff a.2 b.2).trans Subtype.ext_iff.symm)
def encH (k : HK) : Value := .agg k.1
theorem u_maph : Tryz.prog.underlying 144 = some (.map 36 44) := by kernel_rfl
theorem z_u64s (w : World) : (zeroValue 44).run Tryz.prog w = .ok (.slice none 0 0) w := by kernel_rfl
theorem so_u8 (w : World) : (sizeOf 5).run Tryz.prog w = .ok 1 w := by kernel_rfl
theorem chk_u8 (em : Bool) (n : Nat) (x : Int) (w : World) : (Instr.checkKey em (n + 1) 5 (.int .u8 x)).run Tryz.prog w = .ok () w := by
  unfold Instr.checkKey
  simp [run_underlying u_u8 w]
theorem isAgg_u8 (w : World) : (isAgg 5).run Tryz.prog w = .ok false w := by kernel_rfl
theorem part_u8 {h : Array Value} (hh : IsHash h) (i : Nat) (hi : i < 32) (w : World) : ∃ x : Int, (part 5 h i).run Tryz.prog w = .ok (.int .u8 x) w := by
  have hi2 : i < h.size := by rw [hh.1]; exact hi
  obtain ⟨n, hn, _⟩ := hh.2 (h[i]'hi2) (by simp)
  refine ⟨n, ?_⟩
  unfold part
  simp only [Sem.run_bind, isAgg_u8, Result.andThen_ok, Bool.false_eq_true, if_false, Array.getElem?_eq_getElem hi2, hn, Sem.run_pure]
theorem chk_loop {h : Array Value} (hh : IsHash h) (em : Bool) (n : Nat) (w : World) : ∀ l : List Nat, (∀ i ∈ l, i < 32) →
    (forIn l PUnit.unit fun i (_ : PUnit) => do
      let s ← sizeOf 5
      let x ← part 5 h (i * s)
      Instr.checkKey em (n + 1) 5 x
      pure (ForInStep.yield PUnit.unit) : Sem PUnit).run Tryz.prog w = .ok PUnit.unit w := by
  intro l
  induction l with
  | nil => intro _; rfl
  | cons i l ih =>
    intro hl
    obtain ⟨x, hx⟩ := part_u8 hh i (hl i (by simp)) w
    rw [List.forIn_cons]
    simp only [Sem.run_bind, so_u8, Result.andThen_ok, Nat.mul_one, hx, chk_u8, Sem.run_pure]
    exact ih (fun j hj => hl j (by simp [hj]))
theorem encH_law : KeyEnc (K := HK) Tryz.prog 36 encH where
  desc := ⟨_, u_Hash, fun a b => .inl rfl⟩
  eq a b w := by
    unfold encH Op.equal Op.maxDepth
    rw [eq_Hash _ _ a.2 b.2]
    congr 1
    rw [Bool.eq_iff_iff, decide_eq_true_iff, eqH_iff a.2 b.2]
    exact Subtype.ext_iff.symm
  chk e a w := by
    unfold encH Instr.checkKey
    simp only [Sem.run_bind, run_underlying u_Hash w, Result.andThen_ok]
    have := chk_loop a.2 e 9998 w (List.range' 0 32) (by intro i hi; simp at hi; omega)
    simp only [Std.Legacy.Range.forIn_eq_forIn_range', Std.Legacy.Range.size, Nat.sub_zero, Nat.add_one_sub_one, Nat.div_one]
    rw [this]
    rfl
  bits a := by
    unfold encH Instr.sameBits
    rw [Bool.and_eq_true]
    refine ⟨by simp, ?_⟩
    rw [List.all_eq_true]
    rintro ⟨x, y⟩ hxy
    have h1 := a.2.2
    have : x = y ∧ x ∈ a.1.toList := by
      rw [List.mem_iff_getElem] at hxy
      obtain ⟨i, hi, e⟩ := hxy
      rw [List.getElem_zip] at e
      injection e with e1 e2
      exact ⟨e1.symm.trans e2, e1 ▸ List.getElem_mem _⟩
    obtain ⟨rfl, hm⟩ := this
    obtain ⟨n, rfl, _⟩ := h1 x hm
    simp [Instr.sameBits]
  inj a b h := by
    unfold encH at h
    injection h with h
    exact Subtype.ext h
end Go.Proofs.YtpklkefnmoaaaaaGreatDoor

/- m[k] = f(m[k]): an entry looked up (made, if it lacks) and stored in. Nothing of a program. -/
namespace Go.Proofs.YtpklkefnmoaaaaaGreatDoor
open Go.RowKit
set_option linter.unusedVariables false
set_option linter.unusedSimpArgs false
section
variable {K : Type} [DecidableEq K] {P : Program} {kt et t : TypeId} {enc : K → Value} {z : Value} {w : World} {b : Nat} {m : List (K × Value)}
def EsIs (enc : K → Value) (es : Array MapEntry) (clock : Nat) (m : List (K × Value)) : Prop :=
  es.toList.map (fun e => (e.key, e.val)) = m.map (fun x => (enc x.1, x.2)) ∧ (m.map (·.1)).Nodup ∧ (es.toList.map (·.born)).Nodup ∧ ∀ e ∈ es.toList, e.born < clock
theorem EsIs.modi {es : Array MapEntry} {clock : Nat} (h : EsIs enc es clock m) {i : Nat} {a : K} {u : Value} (hmk : m[i]? = some (a, u)) (v : Value) :
    EsIs enc (es.modify i fun e => { e with key := enc a, val := v }) clock (mput m a v) := by
  obtain ⟨hm, hn, hbn, hbl⟩ := h
  have hlen : es.toList.length = m.length := by have := congrArg List.length hm; simpa using this
  have hik : i < m.length := (List.getElem?_eq_some_iff.1 hmk).1
  have hie : i < es.size := by have := hlen; simp only [Array.length_toList] at this; omega
  have h0 : mget m a = some u := mget_of_mem hn (List.mem_iff_getElem?.2 ⟨i, hmk⟩)
  refine ⟨?_, nodup_put m a v hn, ?_, ?_⟩
  · unfold mput
    rw [h0]
    simp only [Option.isSome_some, if_true]
    apply List.ext_getElem?
    intro j
    have h1 := congrArg (fun l => l[j]?) hm
    simp only [List.getElem?_map, Array.getElem?_toList, Array.getElem?_modify] at h1 ⊢
    by_cases hj : i = j
    · subst hj
      rw [hmk, Array.getElem?_eq_getElem hie]
      simp
    · rw [if_neg hj]
      rw [h1]
      cases hmj : m[j]? with
      | none => rfl
      | some y =>
        have hy : ¬ y.1 = a := by
          intro e
          apply hj
          have hjl : j < m.length := (List.getElem?_eq_some_iff.1 hmj).1
          have e1 : (m.map (·.1))[i]'(by simpa using hik) = (m.map (·.1))[j]'(by simpa using hjl) := by
            have a1 := (List.getElem?_eq_some_iff.1 hmk).2
            have a2 := (List.getElem?_eq_some_iff.1 hmj).2
            simp [a1, a2, e]
          exact (List.getElem_inj hn).1 e1
        simp [hy]
  · have : (es.modify i fun e => { e with key := enc a, val := v }).toList.map (·.born) = es.toList.map (·.born) := by
      apply List.ext_getElem?
      intro j
      simp only [List.getElem?_map, Array.getElem?_toList, Array.getElem?_modify]
      by_cases hj : i = j
      · subst hj; cases es[i]? <;> simp
      · simp [hj]
    rw [this]; exact hbn
  · intro e he
    obtain ⟨j, hj⟩ := List.mem_iff_getElem?.1 he
    simp only [Array.getElem?_toList, Array.getElem?_modify] at hj
    by_cases hij : i = j
    · subst hij
      rw [if_pos rfl, Array.getElem?_eq_getElem hie] at hj
      simp at hj
      subst hj
      exact hbl es[i] (by simp)
    · rw [if_neg hij] at hj
      exact hbl e (List.mem_iff_getElem?.2 ⟨j, by simpa using hj⟩)
theorem EsIs.push {es : Array MapEntry} {clock : Nat} (h : EsIs enc es clock m) {a : K} (h0 : mget m a = none) (v : Value) :
    EsIs enc (es.push { key := enc a, val := v, born := clock }) (clock + 1) (mput m a v) := by
  obtain ⟨hm, hn, hbn, hbl⟩ := h
  refine ⟨?_, nodup_put m a v hn, ?_, ?_⟩
  · simp [mput, h0, hm]
  · simp only [Array.toList_push, List.map_append, List.map_cons, List.map_nil, List.nodup_append]
    refine ⟨hbn, by simp, ?_⟩
    intro x hx y hy e
    simp at hy
    obtain ⟨q, hq, hq2⟩ := List.mem_map.1 hx
    have := hbl q hq
    omega
  · intro e he
    simp only [Array.toList_push, List.mem_append, List.mem_singleton] at he
    rcases he with he | rfl
    · have := hbl e he; omega
    · simp
/-- The map in block b has an entry for a, made at st. -/
def EntAt (enc : K → Value) (w : World) (b : Nat) (m : List (K × Value)) (a : K) (st : Nat) : Prop :=
  ∃ (es : Array MapEntry) (clock i : Nat) (u : Value), w.heap[b]? = some (.map es clock) ∧ EsIs enc es clock m ∧ m[i]? = some (a, u) ∧ (es[i]?).map (·.born) = some st
omit [DecidableEq K] in
theorem EntAt.is {a : K} {st : Nat} (h : EntAt enc w b m a st) : MapIs enc w b m := by
  obtain ⟨es, clock, i, u, hb, ⟨h1, h2, h3, h4⟩, _⟩ := h
  exact ⟨es, clock, hb, h1, h2, h3, h4⟩
omit [DecidableEq K] in
theorem EntAt.chg {w' : World} {a : K} {st : Nat} {F : List Nat} (h : EntAt enc w b m a st) (hc : Chg F w w') (hF : b ∉ F) : EntAt enc w' b m a st := by
  obtain ⟨es, clock, i, u, hb, h⟩ := h
  exact ⟨es, clock, i, u, hc.at hb hF, h⟩
theorem EntAt.store {a : K} {st : Nat} (h : EntAt enc w b m a st) (v : Value) :
    ∃ o, (Instr.entryStore t (.map (some b)) (.int .i64 (st : Int)) v).run P w = .ok () (setMap w b o) ∧ MapIs enc (setMap w b o) b (mput m a v) := by
  obtain ⟨es, clock, i, u, hb, hE, hmk, hst⟩ := h
  have hget : (getObj b).run P w = .ok (.map es clock) w := by unfold getObj; simp only [Sem.run, hb]
  have hset : ∀ o, (setObj b o).run P w = .ok () (setMap w b o) := by intro o; unfold setObj; simp only [Sem.run, hb]; rfl
  have hlen : es.toList.length = m.length := by have := congrArg List.length hE.1; simpa using this
  have hik : i < m.length := (List.getElem?_eq_some_iff.1 hmk).1
  have hie : i < es.size := by have := hlen; simp only [Array.length_toList] at this; omega
  have hkey : (es[i]'hie).key = enc a := by
    have h1 := congrArg (fun l => l[i]?) hE.1
    simp only [List.getElem?_map, hmk, Option.map_some, Array.getElem?_toList, Array.getElem?_eq_getElem hie, Option.some.injEq, Prod.mk.injEq] at h1
    exact h1.1
  have hborn : (es[i]'hie).born = st := by rw [Array.getElem?_eq_getElem hie] at hst; simpa using hst
  have hfi : es.findIdx? (fun e => (e.born : Int) == (st : Int)) = some i := by
    rw [Array.findIdx?_eq_some_iff_getElem]
    refine ⟨hie, by simp [hborn], ?_⟩
    intro j hj
    have hjs : j < es.size := by omega
    simp only [beq_iff_eq, Int.natCast_inj, Bool.not_eq_true]
    intro e
    have hn := hE.2.2.1
    have e1 : (es.toList.map (·.born))[j]'(by simpa using hjs) = (es.toList.map (·.born))[i]'(by simpa using hie) := by simp [e, hborn]
    have := (List.getElem_inj hn).1 e1
    omega
  have hmo : (es.modify i fun e => { e with val := v }) = es.modify i fun e => { e with key := enc a, val := v } := by
    apply Array.ext_getElem?
    intro j
    simp only [Array.getElem?_modify]
    by_cases hj : i = j
    · subst hj
      rw [Array.getElem?_eq_getElem hie]
      simp [hkey]
    · simp [hj]
  have hM := hE.modi hmk v
  refine ⟨.map (es.modify i fun e => { e with key := enc a, val := v }) clock, ?_, ?_⟩
  · unfold Instr.entryStore
    simp only [Sem.run_bind, hget, Result.andThen_ok]
    have : (asInt (.int .i64 (st : Int))).run P w = .ok (st : Int) w := rfl
    simp only [this, Result.andThen_ok, hfi, hmo, hset]
  · exact ⟨_, _, setMap_at _ hb, hM.1, hM.2.1, hM.2.2.1, hM.2.2.2⟩
theorem MapIs.ent (h : MapIs enc w b m) (E : KeyEnc P kt enc) (ht : P.underlying t = some (.map kt et)) (hz : ∀ w, (zeroValue et).run P w = .ok z w) (a : K) :
    ∃ o st, (Instr.mapEntry t (.map (some b)) (enc a)).run P w = .ok (.tuple #[(mget m a).getD z, .int .i64 (st : Nat)]) (setMap w b o) ∧ EntAt enc (setMap w b o) b (mput m a ((mget m a).getD z)) a st := by
  obtain ⟨es, clock, hb, hE⟩ := h
  have hE : EsIs enc es clock m := hE
  have hm := hE.1
  have hget : (getObj b).run P w = .ok (.map es clock) w := by unfold getObj; simp only [Sem.run, hb]
  have hset : ∀ o, (setObj b o).run P w = .ok () (setMap w b o) := by intro o; unfold setObj; simp only [Sem.run, hb]; rfl
  have hlen : es.toList.length = m.length := by have := congrArg List.length hm; simpa using this
  cases hf : findIn a m 0 with
  | none =>
    have h0 : mget m a = none := by rw [← findIn_get a m 0, hf]; rfl
    refine ⟨.map (es.push { key := enc a, val := z, born := clock }) (clock + 1), clock, ?_, ?_⟩
    · unfold Instr.mapEntry
      simp only [Sem.run_bind, run_underlying ht w, Result.andThen_ok, hget, E.chk, run_findKey E a w es.toList m hm, hf, hz, hset, h0, Option.getD_none, Sem.run_pure]
      rfl
    · rw [h0, Option.getD_none]
      refine ⟨_, _, m.length, z, setMap_at _ hb, hE.push h0 z, ?_, ?_⟩
      · simp [mput, h0]
      · rw [← hlen, Array.length_toList]
        simp
  | some x =>
    obtain ⟨i, u⟩ := x
    obtain ⟨k, hk, hmk⟩ := findIn_some a m 0 i u hf
    have hk : i = k := by omega
    subst hk
    have hik : i < m.length := (List.getElem?_eq_some_iff.1 hmk).1
    have hie : i < es.size := by have := hlen; simp only [Array.length_toList] at this; omega
    have hekey : (es[i]'hie).key = enc a ∧ (es[i]'hie).val = u := by
      have h1 := congrArg (fun l => l[i]?) hm
      simp only [List.getElem?_map, hmk, Option.map_some, Array.getElem?_toList, Array.getElem?_eq_getElem hie, Option.some.injEq, Prod.mk.injEq] at h1
      exact h1
    have h0 : mget m a = some u := by rw [← findIn_get a m 0, hf]; rfl
    have hst : ∀ x, (Instr.keyThatStays (((es[i]?).map (·.key)).getD (enc a)) (enc a)).run P x = .ok (enc a) x := by
      intro x
      rw [Array.getElem?_eq_getElem hie]
      simp only [Option.map_some, Option.getD_some, hekey.1]
      unfold Instr.keyThatStays
      simp [E.bits a]
    have hmo : (es.modify i fun e => { e with key := enc a }) = es.modify i fun e => { e with key := enc a, val := u } := by
      apply Array.ext_getElem?
      intro j
      simp only [Array.getElem?_modify]
      by_cases hj : i = j
      · subst hj
        rw [Array.getElem?_eq_getElem hie]
        simp [hekey.2]
      · simp [hj]
    refine ⟨.map (es.modify i fun e => { e with key := enc a, val := u }) clock, (es[i]'hie).born, ?_, ?_⟩
    · unfold Instr.mapEntry
      simp only [Sem.run_bind, run_underlying ht w, Result.andThen_ok, hget, E.chk, run_findKey E a w es.toList m hm, hf, hst, hmo, hset, h0, Option.getD_some, Sem.run_pure]
      rw [Array.getElem?_eq_getElem hie]
      rfl
    · rw [h0, Option.getD_some]
      refine ⟨_, _, i, u, setMap_at _ hb, hE.modi hmk u, ?_, ?_⟩
      · unfold mput
        rw [h0]
        simp only [Option.isSome_some, if_true, List.getElem?_map, hmk, Option.map_some]
      · rw [Array.getElem?_modify, if_pos rfl, Array.getElem?_eq_getElem hie]
        rfl
end
end Go.Proofs.YtpklkefnmoaaaaaGreatDoor

/- A find in memory; New, Size, Unlike walked. -/
namespace Go.Proofs.YtpklkefnmoaaaaaGreatDoor
open Go.RowKit
set_option linter.unusedVariables false
set_option linter.unusedSimpArgs false

/-- At which indices a hash stands. -/
def idxOf (k : HK) (ls : List HK) : List Nat := (List.range ls.length).filter fun i => decide (ls[i]? = some k)
structure FS where
  lv : Value
  m : Nat
  ls : List HK
  mp : List (HK × Value)
structure FdIs (w : World) (b : Nat) (f : FS) : Prop where
  mem : w.heap[b]? = some (.cells #[f.lv, .map (some f.m)] 146 (0, 0))
  row : HOwn w 0 f.lv (f.ls.map (·.1))
  map : MapIs encH w f.m f.mp
  val : ∀ k v, (k, v) ∈ f.mp → UOwn w 0 v (idxOf k f.ls) ∧ k ∈ f.ls
  has : ∀ k ∈ f.ls, (mget f.mp k).isSome = true
  bm : b ≠ f.m
  bl : b ∉ ob f.lv
  ml : f.m ∉ ob f.lv
  vb : ∀ k v, (k, v) ∈ f.mp → b ∉ ob v ∧ f.m ∉ ob v ∧ ∀ x ∈ ob v, x ∉ ob f.lv
  vv : ∀ k v k' v', (k, v) ∈ f.mp → (k', v') ∈ f.mp → k ≠ k' → ∀ x ∈ ob v, x ∉ ob v'
theorem FdIs.chg0 {w w' : World} {b : Nat} {f : FS} (h : FdIs w b f) (hc : Chg [] w w') : FdIs w' b f :=
  ⟨hc.at h.mem (by simp), h.row.chg hc (by simp), h.map.chg hc (by simp), fun k v hk => ⟨own_chg (h.val k v hk).1 hc (by simp), (h.val k v hk).2⟩, h.has, h.bm, h.bl, h.ml, h.vb, h.vv⟩
theorem HOwn.shape {w : World} {B : Nat} {v : Value} {hs : List (Array Value)} (h : HOwn w B v hs) : ∃ a cap, v = .slice a hs.length cap := by
  obtain ⟨_, a, cap, rfl, _⟩ := h.hs
  exact ⟨a, cap, rfl⟩
theorem dSize_calls (w : World) (b : Nat) (f : FS) (h : FdIs w b f) (hl : f.ls.length ≤ 1000000) : Calls Tryz.prog 106 #[.pointer (some ⟨b, 0, none⟩)] w fun e w' => e = .returned (.int .u64 (f.ls.length : Nat)) ∧ w' = w := by
  obtain ⟨a, cap, hv⟩ := h.row.shape
  rw [List.length_map] at hv
  have c0 := blk_cell h.mem 0 rfl
  have hb := blk_lt h.mem
  rw [hv] at c0
  clear h
  go_enter Tryz.func106, Tryz.ntmps106
  go_wp2
  go_ret
  exact ⟨rfl, rfl⟩
theorem dUnlike_calls (w : World) (b : Nat) (f : FS) (h : FdIs w b f) : Calls Tryz.prog 115 #[.pointer (some ⟨b, 0, none⟩)] w fun e w' => e = .returned (.int .i64 (f.mp.length : Nat)) ∧ w' = w := by
  have c1 := blk_cell h.mem 1 rfl
  have hb := blk_lt h.mem
  have hlen := fun ty => h.map.len u_maph ty
  clear h
  go_enter Tryz.func115, Tryz.ntmps115
  go_wp2
  go_ret
  exact ⟨rfl, rfl⟩
theorem dNew_calls (w : World) : Calls Tryz.prog 19 #[] w fun e w' => ∃ b f, e = .returned (.pointer (some ⟨b, 0, none⟩)) ∧ FdIs w' b f ∧ f.ls = [] ∧ w.heap.size ≤ b ∧ Chg [] w w' := by
  have hmm := @run_makeMap Tryz.prog
  go_enter Tryz.func19, Tryz.ntmps19
  go_wp2
  go_ret
  have e1 := blk_new (w.alloc (.map #[] 0)) (.cells #[.slice none 0 0, .map (some w.heap.size)] 146)
  rw [World.size_alloc] at e1
  have hc : Chg [] (w.alloc (.map #[] 0)) ((w.alloc (.map #[] 0)).alloc (.cells #[.slice none 0 0, .map (some w.heap.size)] 146)) := (Chg.refl _ _).alloc _
  refine ⟨_, ⟨.slice none 0 0, w.heap.size, [], []⟩, rfl, ⟨e1, HOwn.nil _ _, (MapIs.new encH w).chg hc (by simp), by simp, by simp, by simp, by simp [ob_nil], by simp [ob_nil], by simp, by simp⟩, rfl, by simp, ((Chg.refl [] w).alloc _).nil_trans hc⟩
end Go.Proofs.YtpklkefnmoaaaaaGreatDoor

/- A find: Add walked. -/
namespace Go.Proofs.YtpklkefnmoaaaaaGreatDoor
open Go.RowKit
set_option linter.unusedVariables false
set_option linter.unusedSimpArgs false

theorem idxOf_append (k x : HK) (ls : List HK) : idxOf k (ls ++ [x]) = if x = k then idxOf k ls ++ [ls.length] else idxOf k ls := by
  unfold idxOf
  rw [List.length_append, List.length_singleton, List.range_succ, List.filter_append]
  have h1 : (List.range ls.length).filter (fun i => decide ((ls ++ [x])[i]? = some k)) = (List.range ls.length).filter (fun i => decide (ls[i]? = some k)) := by
    apply List.filter_congr
    intro i hi
    rw [List.getElem?_append_left (by simpa using hi)]
  rw [h1]
  by_cases h : x = k
  · rw [if_pos h]; simp [h]
  · rw [if_neg h]; simp [h]
theorem idxOf_length (k : HK) (ls : List HK) : (idxOf k ls).length ≤ ls.length := by
  unfold idxOf
  have := List.length_filter_le (fun i => decide (ls[i]? = some k)) (List.range ls.length)
  rwa [List.length_range] at this
theorem idxOf_none (k : HK) (ls : List HK) (h : k ∉ ls) : idxOf k ls = [] := by
  unfold idxOf
  rw [List.filter_eq_nil_iff]
  intro i hi
  simp only [decide_eq_true_eq]
  intro e
  exact h (List.mem_iff_getElem?.2 ⟨i, e⟩)
theorem UOwn.pushAt {w : World} {B : Nat} {v : Value} {l : List Nat} (h : UOwn w B v l) (x g : Nat) (hg : w.heap[g]? = some (.cells #[.int .u64 x] 38 (0, 0))) (hlen : l.length ≤ 1099511627776) (hB : B ≤ w.heap.size) (ty : TypeId) :
    ∃ v' w', (Builtin.append_ #[44, 44] ty #[v, .slice (some ⟨g, 0, none⟩) 1 1]).run Tryz.prog w = .ok v' w' ∧ UOwn w' B v' (l ++ [x]) ∧ Chg (ob v) w w' ∧ (∀ k ∈ ob v', k ∈ ob v ∨ w.heap.size ≤ k) := by
  obtain ⟨i, hi, hz, hsz, hby⟩ := infoOfU i_u64
  obtain ⟨v', w', hr, h2, h3, h4⟩ := run_append_any (P := Tryz.prog) w B 44 ty 38 i _ 1 8 u_u64s hi hz hsz hby rfl (by decide) v l.length _ h (some ⟨g, 0, none⟩) 1 1 [.int .u64 x]
    ⟨rfl, fun _ => ⟨g, 0, rfl, fun j u hu => by
      have : j = 0 := by
        cases j with
        | zero => rfl
        | succ j => simp at hu
      subst this
      simp at hu
      subst hu
      exact blk_cell hg 0 rfl⟩⟩ (by intro u hu; simp at hu; subst hu; rfl) (by unfold maxLen; omega) (by omega) hB
  refine ⟨v', w', hr, ?_, h3, h4⟩
  unfold UOwn
  rw [List.length_append, List.map_append]
  exact h2
theorem FdIs.cur {w : World} {b : Nat} {f : FS} (h : FdIs w b f) (k : HK) : UOwn w 0 ((mget f.mp k).getD (.slice none 0 0)) (idxOf k f.ls) := by
  cases hm : mget f.mp k with
  | none =>
    have : k ∉ f.ls := fun hk => by have := h.has k hk; rw [hm] at this; cases this
    rw [idxOf_none k _ this]
    exact UOwn.nil _ _
  | some v => exact (h.val k v (mget_mem hm)).1
theorem mem_put {K : Type} [DecidableEq K] {m : List (K × Value)} {a k : K} {x v : Value} (h : (k, v) ∈ mput m a x) : (k = a ∧ v = x) ∨ (k ≠ a ∧ (k, v) ∈ m) := by
  unfold mput at h
  split at h
  · obtain ⟨y, hy, e⟩ := List.mem_map.1 h
    by_cases hya : y.1 = a
    · rw [if_pos hya] at e
      injection e with e1 e2
      exact .inl ⟨e1.symm, e2.symm⟩
    · rw [if_neg hya] at e
      subst e
      exact .inr ⟨hya, hy⟩
  · rename_i hn
    rcases List.mem_append.1 h with q | q
    · refine .inr ⟨fun e => hn ?_, q⟩
      cases hm : mget m a with
      | some _ => rfl
      | none => exact absurd e ((mget_none_iff m a).1 hm _ q)
    · simp at q
      exact .inl q
def apYf (ts : Array TypeId) (ty : TypeId) (xs : Array Value) : Sem Value := Builtin.append_ ts ty xs
theorem hold_apYf (ts : Array TypeId) (ty : TypeId) (xs : Array Value) : Builtin.append_ ts ty xs = apYf ts ty xs := rfl
def meY (t : TypeId) (m k : Value) : Sem Value := Instr.mapEntry t m k
theorem hold_meY (t : TypeId) (m k : Value) : Instr.mapEntry t m k = meY t m k := rfl
def esY (t : TypeId) (m s v : Value) : Sem Unit := Instr.entryStore t m s v
theorem hold_esY (t : TypeId) (m s v : Value) : Instr.entryStore t m s v = esY t m s v := rfl
attribute [local go_sem ↓] hold_apYf hold_meY hold_esY
/-- The find's own blocks. -/
def FS.foot (f : FS) (b : Nat) : List Nat := b :: f.m :: (ob f.lv ++ f.mp.flatMap fun x => ob x.2)
theorem FS.foot_val {f : FS} {b : Nat} {k : HK} {v : Value} (h : (k, v) ∈ f.mp) {x : Nat} (hx : x ∈ ob v) : x ∈ f.foot b :=
  List.mem_cons_of_mem _ (List.mem_cons_of_mem _ (List.mem_append.2 (.inr (List.mem_flatMap.2 ⟨(k, v), h, hx⟩))))
theorem FS.foot_row {f : FS} {b x : Nat} (hx : x ∈ ob f.lv) : x ∈ f.foot b := List.mem_cons_of_mem _ (List.mem_cons_of_mem _ (List.mem_append.2 (.inl hx)))
theorem FS.foot_map {f : FS} {b : Nat} : f.m ∈ f.foot b := List.mem_cons_of_mem _ (List.mem_cons_self)
theorem FS.foot_head {f : FS} {b : Nat} : b ∈ f.foot b := List.mem_cons_self
theorem FS.foot_cur {f : FS} {b : Nat} {k : HK} {x : Nat} (hx : x ∈ ob ((mget f.mp k).getD (.slice none 0 0))) : x ∈ f.foot b := by
  cases hm : mget f.mp k with
  | none => rw [hm] at hx; simp [ob_nil] at hx
  | some v => rw [hm] at hx; exact FS.foot_val (mget_mem hm) hx
theorem FS.foot_cases {f : FS} {b x : Nat} (hx : x ∈ f.foot b) : x = b ∨ x = f.m ∨ x ∈ ob f.lv ∨ ∃ k v, (k, v) ∈ f.mp ∧ x ∈ ob v := by
  rcases List.mem_cons.1 hx with q | q
  · exact .inl q
  rcases List.mem_cons.1 q with q | q
  · exact .inr (.inl q)
  rcases List.mem_append.1 q with q | q
  · exact .inr (.inr (.inl q))
  obtain ⟨⟨k, v⟩, h1, h2⟩ := List.mem_flatMap.1 q
  exact .inr (.inr (.inr ⟨k, v, h1, h2⟩))
theorem FdIs.lt {w : World} {b : Nat} {f : FS} (h : FdIs w b f) : ∀ x ∈ f.foot b, x < w.heap.size := by
  intro x hx
  rcases FS.foot_cases hx with rfl | rfl | q | ⟨k, v, h1, h2⟩
  · exact blk_lt h.mem
  · exact h.map.lt
  · exact (own_lt h.row.1 _ q).2
  · exact (own_lt (h.val k v h1).1 x h2).2
theorem FdIs.chg {w w' : World} {b : Nat} {f : FS} {F : List Nat} (h : FdIs w b f) (hc : Chg F w w') (hF : ∀ x ∈ f.foot b, x ∉ F) : FdIs w' b f :=
  ⟨hc.at h.mem (hF _ FS.foot_head), h.row.chg hc (fun x hx => hF _ (FS.foot_row hx)), h.map.chg hc (hF _ FS.foot_map), fun k v hk => ⟨own_chg (h.val k v hk).1 hc (fun x hx => hF _ (FS.foot_val hk hx)), (h.val k v hk).2⟩, h.has, h.bm, h.bl, h.ml, h.vb, h.vv⟩
def AddP (w : World) (b : Nat) (f : FS) (k : HK) (e : Ending) (w' : World) : Prop := ∃ f', e = .returned (.int .u64 (f.ls.length : Nat)) ∧ FdIs w' b f' ∧ f'.ls = f.ls ++ [k] ∧ Chg (f.foot b) w w' ∧ ∀ x ∈ f'.foot b, x ∈ f.foot b ∨ w.heap.size ≤ x
set_option maxRecDepth 100000 in
set_option maxHeartbeats 4000000 in
theorem dAdd_calls (w : World) (b : Nat) (f : FS) (h : FdIs w b f) (hl : f.ls.length ≤ 100000) (k : HK) : Calls Tryz.prog 22 #[.pointer (some ⟨b, 0, none⟩), .agg k.1] w (AddP w b f k) := by
  obtain ⟨w0, rfl⟩ : ∃ w0 : World, w0 = w := ⟨_, rfl⟩
  have hk1 := k.2.1
  have hk2 := k.2.one
  have h1 := h.chg0 ((Chg.refl [] w0).alloc (.cells k.1 36))
  have hsz := dSize_calls _ b f h1 (by omega)
  have hbx := rng?_row (blk_new w0 (.cells k.1 36)) hk1
  have hLn : w0.heap.size < (w0.alloc (.cells k.1 36)).heap.size := by simp
  have c0 : (w0.alloc (.cells k.1 36)).cell? ⟨b, 0, none⟩ = some f.lv := blk_cell h1.mem 0 rfl
  have c1 : (w0.alloc (.cells k.1 36)).cell? ⟨b, 1, none⟩ = some (.map (some f.m)) := blk_cell h1.mem 1 rfl
  have c0b : ((w0.alloc (.cells k.1 36)).alloc (.cells k.1 36)).cell? ⟨b, 0, none⟩ = some f.lv := blk_cell (((Chg.refl [] (w0.alloc (.cells k.1 36))).alloc _).at h1.mem (by simp)) 0 rfl
  have hb := blk_lt h1.mem
  have hpush := (h1.row.chg ((Chg.refl [] (w0.alloc (.cells k.1 36))).drew) (by simp)).push k.1 k.2 (by rw [List.length_map]; omega) (Nat.zero_le _) 39
  obtain ⟨v2, w2, hr2, hO2, hc2, hb2⟩ := hpush
  obtain ⟨a2, cap2, hv2⟩ := hO2.shape
  rw [show (f.ls.map (·.1) ++ [k.1]).length = f.ls.length + 1 from by simp] at hv2
  subst hv2
  have hrun : (apYf #[39, 39] 39 #[f.lv, .slice (some ⟨(w0.alloc (.cells k.1 36)).heap.size, 0, none⟩) 1 1]).run Tryz.prog (((w0.alloc (.cells k.1 36)).alloc (.cells k.1 36)).drew) = .ok (.slice a2 (f.ls.length + 1) cap2) w2 := hr2
  rw [World.size_alloc] at hrun
  have d0 : w2.cell? ⟨b, 0, none⟩ = some f.lv := by
    have := hc2.at (((Chg.refl [] (w0.alloc (.cells k.1 36))).drew).at h1.mem (by simp)) h.bl
    exact blk_cell this 0 rfl
  have d1 : w2.frozen? ⟨b, 0, none⟩ = false := by
    have := hc2.at (((Chg.refl [] (w0.alloc (.cells k.1 36))).drew).at h1.mem (by simp)) h.bl
    exact blk_frozen this 0
  go_enter Tryz.func22, Tryz.ntmps22
  go_upto_region 2 with (go_at_call 106; refine hsz.mono ?_; rintro e w3 ⟨rfl, hw3⟩; obtain rfl : _ = w3 := hw3.symm)
  go_region
  clear hrun hr2 c0 c1 c0b d0 d1 hb hsz
  have e0 : (w2.setCell ⟨b, 0, none⟩ (.slice a2 (f.ls.length + 1) cap2)).heap[b]? = some (.cells #[.slice a2 (f.ls.length + 1) cap2, .map (some f.m)] 146 (0, 0)) := by
    have := hc2.at (((Chg.refl [] (w0.alloc (.cells k.1 36))).drew).at h1.mem (by simp)) h.bl
    exact blk_set this 0 _
  have c02 : Chg (b :: ob f.lv) (w0.alloc (.cells k.1 36)) (w2.setCell ⟨b, 0, none⟩ (.slice a2 (f.ls.length + 1) cap2)) := by
    have q1 : Chg (b :: ob f.lv) (w0.alloc (.cells k.1 36)) (w0.alloc (.cells k.1 36)).drew := (Chg.refl _ _).drew
    have q2 : Chg (b :: ob f.lv) (w0.alloc (.cells k.1 36)).drew w2 := hc2.mono (fun x hx _ => List.mem_cons_of_mem _ hx)
    exact (q1.trans q2 (fun x hx => .inl hx)).setCell (.inl (List.mem_cons_self)) _
  have e1 : MapIs encH (w2.setCell ⟨b, 0, none⟩ (.slice a2 (f.ls.length + 1) cap2)) f.m f.mp := h1.map.chg c02 (by intro hm; rcases List.mem_cons.1 hm with q | q; exact h.bm q.symm; exact h.ml q)
  have e2 : HOwn (w2.setCell ⟨b, 0, none⟩ (.slice a2 (f.ls.length + 1) cap2)) 0 (.slice a2 (f.ls.length + 1) cap2) (f.ls.map (·.1) ++ [k.1]) := hO2.chg ((Chg.refl [b] w2).setCell (.inl (by simp)) _) (by
    intro x hx hxb
    have : x = b := by simpa using hxb
    subst this
    rcases hb2 x hx with q | q
    · exact h.bl q
    · have := blk_lt h1.mem
      exact absurd this (Nat.not_lt.2 q))
  have e3 : ∀ k' v, (k', v) ∈ f.mp → UOwn (w2.setCell ⟨b, 0, none⟩ (.slice a2 (f.ls.length + 1) cap2)) 0 v (idxOf k' f.ls) := fun k' v hk' => own_chg (h1.val k' v hk').1 c02 (by
    intro x hx hxb
    rcases List.mem_cons.1 hxb with q | q
    · subst q; exact (h.vb k' v hk').1 hx
    · exact (h.vb k' v hk').2.2 x hx q)
  have e4 := rng?_chg c02 hbx (by omega) (by
    intro hx
    rcases List.mem_cons.1 hx with q | q
    · have := blk_lt h.mem; omega
    · have := own_lt h.row.1 _ q; omega)
  have e5 : w0.heap.size < (w2.setCell ⟨b, 0, none⟩ (.slice a2 (f.ls.length + 1) cap2)).heap.size := by have := c02.size; omega
  generalize w2.setCell ⟨b, 0, none⟩ (.slice a2 (f.ls.length + 1) cap2) = w4 at *
  have g1 : w4.cell? ⟨b, 1, none⟩ = some (.map (some f.m)) := blk_cell e0 1 rfl
  have gb := blk_lt e0
  obtain ⟨o5, st, hme, hEA⟩ := (e1.chg (((Chg.refl [] w4).alloc (.cells #[.int .u64 (f.ls.length : Nat)] 38)).drew) (by simp)).ent encH_law u_maph z_u64s k
  have hme2 : (meY 144 (.map (some f.m)) (.agg k.1)).run Tryz.prog ((w4.alloc (.cells #[.int .u64 (f.ls.length : Nat)] 38)).drew) = .ok (.tuple #[(mget f.mp k).getD (.slice none 0 0), .int .i64 (st : Nat)]) (setMap ((w4.alloc (.cells #[.int .u64 (f.ls.length : Nat)] 38)).drew) f.m o5) := hme
  have g2 : (w4.alloc (.cells #[.int .u64 (f.ls.length : Nat)] 38)).cell? ⟨b, 1, none⟩ = some (.map (some f.m)) := blk_cell (((Chg.refl [] w4).alloc _).at e0 (by simp)) 1 rfl
  have g3 := rng?_chg ((Chg.refl [] w4).alloc (.cells #[.int .u64 (f.ls.length : Nat)] 38)) e4 (by omega) (by simp)
  have hcm : b ∉ ob ((mget f.mp k).getD (.slice none 0 0)) ∧ f.m ∉ ob ((mget f.mp k).getD (.slice none 0 0)) ∧ ∀ x ∈ ob ((mget f.mp k).getD (.slice none 0 0)), x ∉ ob f.lv := by
    cases hm : mget f.mp k with
    | none => simp [ob_nil]
    | some v => exact h.vb k v (mget_mem hm)
  have hcu : UOwn w4 0 ((mget f.mp k).getD (.slice none 0 0)) (idxOf k f.ls) := own_chg (h1.cur k) c02 (by
    intro x hx hxb
    rcases List.mem_cons.1 hxb with q | q
    · subst q; exact hcm.1 hx
    · exact hcm.2.2 x hx q)
  have hc6 : Chg [f.m] w4 (setMap ((w4.alloc (.cells #[.int .u64 (f.ls.length : Nat)] 38)).drew) f.m o5) := ((((Chg.refl [f.m] w4).alloc _).drew).trans (setMap_chg _ f.m o5) (fun x hx => .inl hx))
  have hg6 : (setMap ((w4.alloc (.cells #[.int .u64 (f.ls.length : Nat)] 38)).drew) f.m o5).heap[w4.heap.size]? = some (.cells #[.int .u64 (f.ls.length : Nat)] 38 (0, 0)) :=
    (setMap_chg _ f.m o5).at (((Chg.refl [] _).drew).at (blk_new w4 _) (by simp)) (by have := e1.lt; simp; omega)
  obtain ⟨v7, w7, hr7, hO7, hc7, hb7⟩ := UOwn.pushAt (own_chg hcu hc6 (by intro x hx hxb; rw [List.mem_singleton] at hxb; subst hxb; exact hcm.2.1 hx)) f.ls.length w4.heap.size hg6 (by have := idxOf_length k f.ls; omega) (Nat.zero_le _) 44
  have hr7' : (apYf #[44, 44] 44 #[(mget f.mp k).getD (.slice none 0 0), .slice (some ⟨w4.heap.size, 0, none⟩) 1 1]).run Tryz.prog (setMap ((w4.alloc (.cells #[.int .u64 (f.ls.length : Nat)] 38)).drew) f.m o5) = .ok v7 w7 := hr7
  obtain ⟨o8, hs8, hM8⟩ := (hEA.chg hc7 hcm.2.1).store (P := Tryz.prog) (t := 144) v7
  have hs8' : (esY 144 (.map (some f.m)) (.int .i64 (st : Int)) v7).run Tryz.prog w7 = .ok () (setMap w7 f.m o8) := hs8
  have HB2 := Lib.hid hb2
  have HB7 := Lib.hid hb7
  have HC6 := Lib.hid hc6
  have HC7 := Lib.hid hc7
  clear hO2 hb2 hc2 h1 hbx hLn
  go_upto_region 3 with (fail)
  go_region
  go_wp2
  go_ret
  have hcF : Chg (f.m :: ob ((mget f.mp k).getD (.slice none 0 0))) w4 (setMap w7 f.m o8) :=
    ((HC6.out.mono (G := f.m :: ob ((mget f.mp k).getD (.slice none 0 0))) (fun x hx _ => by rw [List.mem_singleton] at hx; subst hx; exact List.mem_cons_self)).trans HC7.out (fun x hx => .inl (List.mem_cons_of_mem _ hx))).trans (setMap_chg w7 f.m o8) (fun x hx => .inl (by rw [List.mem_singleton] at hx; subst hx; exact List.mem_cons_self))
  have hcl : ∀ x ∈ ob ((mget f.mp k).getD (.slice none 0 0)), x < w0.heap.size := by
    cases hm : mget f.mp k with
    | none => simp [ob_nil]
    | some v => exact fun x hx => (own_lt (h.val k v (mget_mem hm)).1 x hx).2
  have hz0 : w0.heap.size ≤ (w0.alloc (.cells k.1 36)).drew.heap.size := (((Chg.refl [] w0).alloc _).drew).size
  have hz6 := HC6.out.size
  have hml := h.map.lt
  have hbl := blk_lt h.mem
  have hll := own_lt e2.1
  have hcv : ∀ k' v, (k', v) ∈ f.mp → k' ≠ k → ∀ x ∈ ob v, x ∉ ob ((mget f.mp k).getD (.slice none 0 0)) := by
    intro k' v hk' hne
    cases hm : mget f.mp k with
    | none => simp [ob_nil]
    | some v0 => exact h.vv k' v k v0 hk' (mget_mem hm) hne
  have hlv : ∀ x ∈ ob (.slice a2 (f.ls.length + 1) cap2), x ≠ b ∧ x ≠ f.m ∧ x ∉ ob ((mget f.mp k).getD (.slice none 0 0)) ∧ ∀ k' v, (k', v) ∈ f.mp → x ∉ ob v := by
    intro x hx
    rcases HB2.out x hx with q | q
    · exact ⟨fun e => h.bl (e ▸ q), fun e => h.ml (e ▸ q), fun e => hcm.2.2 x e q, fun k' v hk' e => (h.vb k' v hk').2.2 x e q⟩
    · exact ⟨by omega, by omega, fun e => by have := hcl x e; omega, fun k' v hk' e => by have := (own_lt (h.val k' v hk').1 x e).2; omega⟩
  have h77 : ∀ x ∈ ob v7, x ≠ b ∧ x ≠ f.m ∧ x ∉ ob (.slice a2 (f.ls.length + 1) cap2) ∧ ∀ k' v, (k', v) ∈ f.mp → k' ≠ k → x ∉ ob v := by
    intro x hx
    rcases HB7.out x hx with q | q
    · exact ⟨fun e => hcm.1 (e ▸ q), fun e => hcm.2.1 (e ▸ q), fun e => (hlv x e).2.2.1 q, fun k' v hk' hne e => hcv k' v hk' hne x e q⟩
    · exact ⟨by omega, by omega, fun e => by have := (hll x e).2; omega, fun k' v hk' _ e => by have := (own_lt (h.val k' v hk').1 x e).2; omega⟩
  refine ⟨⟨.slice a2 (f.ls.length + 1) cap2, f.m, f.ls ++ [k], mput (mput f.mp k ((mget f.mp k).getD (.slice none 0 0))) k v7⟩, rfl, ⟨?_, ?_, hM8, ?_, ?_, h.bm, ?_, ?_, ?_, ?_⟩, rfl, ?_, ?_⟩
  · exact hcF.at e0 (by intro hx; rcases List.mem_cons.1 hx with q | q; exact h.bm q; exact hcm.1 q)
  · have := e2.chg hcF (by intro x hx hxF; rcases List.mem_cons.1 hxF with q | q; exact (hlv x hx).2.1 q; exact (hlv x hx).2.2.1 q)
    show HOwn _ 0 _ ((f.ls ++ [k]).map (·.1))
    rw [List.map_append]
    exact this
  · intro k' v hk'
    rcases mem_put hk' with ⟨rfl, rfl⟩ | ⟨hne, hk2⟩
    · refine ⟨?_, by simp⟩
      show UOwn _ 0 _ (idxOf k' (f.ls ++ [k']))
      rw [idxOf_append, if_pos rfl]
      exact own_chg hO7 (setMap_chg w7 f.m o8) (by intro x hx hxF; rw [List.mem_singleton] at hxF; exact (h77 x hx).2.1 hxF)
    · rcases mem_put hk2 with ⟨rfl, _⟩ | ⟨_, hk3⟩
      · exact absurd rfl hne
      · refine ⟨?_, by have := (h.val k' v hk3).2; simp [this]⟩
        show UOwn _ 0 _ (idxOf k' (f.ls ++ [k]))
        rw [idxOf_append, if_neg (fun e => hne e.symm)]
        exact own_chg (e3 k' v hk3) hcF (by intro x hx hxF; rcases List.mem_cons.1 hxF with q | q; exact (h.vb k' v hk3).2.1 (q ▸ hx); exact hcv k' v hk3 hne x hx q)
  · intro k' hk'
    show (mget (mput (mput f.mp k _) k v7) k').isSome = true
    rw [mget_put, mget_put]
    by_cases hkk : k' = k
    · rw [if_pos hkk]; rfl
    · rw [if_neg hkk, if_neg hkk]
      rcases List.mem_append.1 hk' with q | q
      · exact h.has k' q
      · exact absurd (by simpa using q) hkk
  · exact fun e => (hlv b e).1 rfl
  · exact fun e => (hlv f.m e).2.1 rfl
  · intro k' v hk'
    rcases mem_put hk' with ⟨rfl, rfl⟩ | ⟨hne, hk2⟩
    · exact ⟨fun e => (h77 b e).1 rfl, fun e => (h77 f.m e).2.1 rfl, fun x hx => (h77 x hx).2.2.1⟩
    · rcases mem_put hk2 with ⟨rfl, _⟩ | ⟨_, hk3⟩
      · exact absurd rfl hne
      · exact ⟨(h.vb k' v hk3).1, (h.vb k' v hk3).2.1, fun x hx e => (hlv x e).2.2.2 k' v hk3 hx⟩
  · intro k' v' k2 v2' hk' hk2' hne x hx hx2
    rcases mem_put hk' with ⟨rfl, rfl⟩ | ⟨n1, q1⟩
    · rcases mem_put hk2' with ⟨rfl, rfl⟩ | ⟨n2, q2⟩
      · exact hne rfl
      · rcases mem_put q2 with ⟨rfl, _⟩ | ⟨_, q3⟩
        · exact hne rfl
        · exact (h77 x hx).2.2.2 k2 v2' q3 n2 hx2
    · rcases mem_put q1 with ⟨rfl, _⟩ | ⟨_, q4⟩
      · exact absurd rfl n1
      · rcases mem_put hk2' with ⟨rfl, rfl⟩ | ⟨n2, q2⟩
        · exact (h77 x hx2).2.2.2 k' v' q4 n1 hx
        · rcases mem_put q2 with ⟨rfl, _⟩ | ⟨_, q3⟩
          · exact absurd rfl n2
          · exact h.vv k' v' k2 v2' q4 q3 hne x hx hx2
  · have t1 : Chg (f.foot b) w0 w4 := ((Chg.refl _ w0).alloc _).trans c02 (fun x hx => .inl (by
      rcases List.mem_cons.1 hx with q | q
      · rw [q]; exact FS.foot_head
      · exact FS.foot_row q))
    exact t1.trans hcF (fun x hx => .inl (by
      rcases List.mem_cons.1 hx with q | q
      · rw [q]; exact FS.foot_map
      · exact FS.foot_cur q))
  · intro x hx
    rcases FS.foot_cases hx with q | q | q | ⟨k', v', q, q2⟩
    · exact .inl (by rw [q]; exact FS.foot_head)
    · exact .inl (by rw [q]; exact FS.foot_map)
    · rcases HB2.out x q with r | r
      · exact .inl (FS.foot_row r)
      · exact .inr (by omega)
    · rcases mem_put q with ⟨rfl, rfl⟩ | ⟨hne, hk2⟩
      · rcases HB7.out x q2 with r | r
        · exact .inl (FS.foot_cur r)
        · exact .inr (by omega)
      · rcases mem_put hk2 with ⟨rfl, _⟩ | ⟨_, hk3⟩
        · exact absurd rfl hne
        · exact .inl (FS.foot_val hk3 q2)
end Go.Proofs.YtpklkefnmoaaaaaGreatDoor

/- A find: Leaf walked. -/
namespace Go.Proofs.YtpklkefnmoaaaaaGreatDoor
open Go.RowKit
set_option linter.unusedVariables false
set_option linter.unusedSimpArgs false

end Go.Proofs.YtpklkefnmoaaaaaGreatDoor

/- A find: slices.Clone at numbers, At walked; Leaf. -/
namespace Go.Proofs.YtpklkefnmoaaaaaGreatDoor
open Go.RowKit
set_option linter.unusedVariables false
set_option linter.unusedSimpArgs false

theorem UOwn.chgU {w w' : World} {B : Nat} {v : Value} {l : List Nat} {F : List Nat} (h : UOwn w B v l) (hc : Chg F w w') (hF : ∀ k ∈ ob v, k ∉ F) : UOwn w' B v l := own_chg h hc hF
theorem UOwn.shapeU {w : World} {B : Nat} {v : Value} {l : List Nat} (h : UOwn w B v l) : ∃ a cap, v = .slice a l.length cap := by
  rcases h.2 with ⟨rfl, h0⟩ | ⟨g, cap, cur, rfl, _⟩
  · exact ⟨none, 0, by rw [h0]⟩
  · exact ⟨_, _, rfl⟩
theorem UOwn.cellU {w : World} {B : Nat} {a : Option Addr} {n cap : Nat} {l : List Nat} (h : UOwn w B (.slice a n cap) l) {i : Nat} (hi : i < l.length) : n = l.length ∧ ∃ g, a = some ⟨g, 0, none⟩ ∧ g < w.heap.size ∧ w.cell? ⟨g, i, none⟩ = some (.int .u64 (l[i] : Nat)) := by
  rcases h.2 with ⟨h1, h0⟩ | ⟨g, cap', cur, h1, hb, hh, hnc, hm, hcs, ht⟩
  · omega
  · injection h1 with e1 e2 e3
    subst e1 e2 e3
    refine ⟨rfl, g, rfl, blk_lt hh, blk_cell hh i ?_⟩
    have e := congrArg (fun x => x[i]?) ht
    simp only [List.getElem?_take, Nat.mul_one, if_pos hi, List.getElem?_map, List.getElem?_eq_getElem hi, Option.map_some] at e
    simpa using e
theorem UOwn.appendU {w : World} {B : Nat} {v : Value} {l l2 : List Nat} {a : Option Addr} {cap : Nat} (h : UOwn w B v l) (hl : Rd w 1 a l2.length (l2.map fun (n : Nat) => Value.int .u64 (n : Int))) (hlen : l.length + l2.length ≤ 4294967296) (hB : B ≤ w.heap.size) (ty : TypeId) :
    ∃ v' w', (Builtin.append_ #[44, 44] ty #[v, .slice a l2.length cap]).run Tryz.prog w = .ok v' w' ∧ UOwn w' B v' (l ++ l2) ∧ Chg (ob v) w w' ∧ (∀ k ∈ ob v', k ∈ ob v ∨ w.heap.size ≤ k) := by
  obtain ⟨i, hi, hz, hsz, hby⟩ := infoOfU i_u64
  obtain ⟨v', w', hr, h2, h3, h4⟩ := run_append_any (P := Tryz.prog) w B 44 ty 38 i _ 1 8 u_u64s hi hz hsz hby rfl (by decide) v l.length _ h a l2.length cap _ hl
    (fun u hu => by
      obtain ⟨x, _, rfl⟩ := List.mem_map.1 hu
      rfl) (by unfold maxLen; omega) (by omega) hB
  refine ⟨v', w', hr, ?_, h3, h4⟩
  unfold UOwn
  rw [List.length_append, List.map_append]
  exact h2
def CloneUP (w : World) (l : List Nat) (e : Ending) (w' : World) : Prop := ∃ v', e = .returned v' ∧ UOwn w' w.heap.size v' l ∧ Chg [] w w'
theorem cloneU_calls (w : World) (B : Nat) (v : Value) (l : List Nat) (h : UOwn w B v l) (hl : l.length ≤ 1000000) : Calls Tryz.prog 175 #[v] w (CloneUP w l) := by
  have qT : ∀ (w : World) (a : Option Addr) (n c n' c' : Nat), (binOp .eql 44 (.slice a n c) (.slice none n' c')).run Tryz.prog w = .ok (.bool a.isNone) w := fun w a n c n' c' => Lib.run_eql_slice_nil w _ _ a n c n' c' u_u64s
  rcases h.2 with ⟨rfl, hl0⟩ | ⟨g, cap, cur, rfl, hg, hgb, hnc, hcm, hcs, htake⟩
  · have hn : l = [] := List.eq_nil_of_length_eq_zero hl0
    subst hn
    clear h
    go_enter Tryz.func175, Tryz.ntmps175
    go_wp2
    go_ret
    exact ⟨_, rfl, UOwn.nil _ _, Chg.refl _ _⟩
  · have hc0 : Chg [] w (w.alloc (.cells #[] 38)) := (Chg.refl _ _).alloc _
    have hE : UOwn (w.alloc (.cells #[] 38)) w.heap.size (.slice (some ⟨w.heap.size, 0, none⟩) 0 0) [] := own_new w w.heap.size 38 1 0 #[] (Nat.le_refl _) rfl (Nat.zero_le _)
    obtain ⟨v', w', a1, a2, a3, a4⟩ := hE.appendU (own_rd (own_chg h hc0 (by simp))) (by simp; omega) hc0.size 44 (cap := cap)
    have hP : CloneUP w l (.returned v') w' := ⟨v', rfl, by simpa using a2, hc0.trans a3 (fun x hx => .inr (own_lt hE x hx).1)⟩
    have HP := Lib.hid hP
    clear a2 a3 a4 hE hc0 h hP hgb hcs htake hcm
    go_enter Tryz.func175, Tryz.ntmps175
    go_wp2_with (at_builtin; refine Lib.wpList_append_run _ rfl _ _ _ _ rfl _ _ rfl rfl _ _ a1 ?_)
    go_ret
    exact HP.out
theorem FdIs.look {w : World} {b : Nat} {f : FS} (h : FdIs w b f) (k : HK) : (Instr.lookup 144 (.map (some f.m)) (.agg k.1) false).run Tryz.prog w = .ok ((mget f.mp k).getD (.slice none 0 0)) w := by
  have := h.map.look encH_law u_maph z_u64s k false
  simpa [encH] using this
def luY (t : TypeId) (m k : Value) (c : Bool) : Sem Value := Instr.lookup t m k c
theorem hold_luY (t : TypeId) (m k : Value) (c : Bool) : Instr.lookup t m k c = luY t m k c := rfl
attribute [local go_sem ↓] hold_luY
set_option maxRecDepth 100000 in
theorem dAt_calls (w : World) (b : Nat) (f : FS) (h : FdIs w b f) (hl : f.ls.length ≤ 100000) (k : HK) : Calls Tryz.prog 113 #[.pointer (some ⟨b, 0, none⟩), .agg k.1] w (CloneUP w (idxOf k f.ls)) := by
  have hk1 := k.2.1
  have hk2 := k.2.one
  have h1 := h.chg0 ((Chg.refl [] w).alloc (.cells k.1 36))
  have hbx := rng?_row (blk_new w (.cells k.1 36)) hk1
  have hLn : w.heap.size < (w.alloc (.cells k.1 36)).heap.size := by simp
  have c1 : (w.alloc (.cells k.1 36)).cell? ⟨b, 1, none⟩ = some (.map (some f.m)) := blk_cell h1.mem 1 rfl
  have hb := blk_lt h1.mem
  have hlk : (luY 144 (.map (some f.m)) (.agg k.1) false).run Tryz.prog ((w.alloc (.cells k.1 36)).drew) = .ok ((mget f.mp k).getD (.slice none 0 0)) ((w.alloc (.cells k.1 36)).drew) := (h1.chg0 ((Chg.refl [] _).drew)).look k
  have hcl := cloneU_calls ((w.alloc (.cells k.1 36)).drew) 0 _ _ ((h1.chg0 ((Chg.refl [] _).drew)).cur k) (by have := idxOf_length k f.ls; omega)
  have hsz : w.heap.size ≤ ((w.alloc (.cells k.1 36)).drew).heap.size := (((Chg.refl [] w).alloc _).drew).size
  have hcc : Chg [] w ((w.alloc (.cells k.1 36)).drew) := ((Chg.refl [] w).alloc _).drew
  have HCL := Lib.hid hcl
  clear hcl h h1
  generalize idxOf k f.ls = l at *
  generalize (mget f.mp k).getD (.slice none 0 0) = u at *
  go_enter Tryz.func113, Tryz.ntmps113
  go_wp2
  go_region_with (go_at_call 175; refine HCL.out.mono ?_; rintro e w3 ⟨v', rfl, h3, hc3⟩)
  all_goals
    go_wp2
    go_ret
    exact ⟨_, rfl, own_mono h3 hsz, hcc.nil_trans hc3⟩
end Go.Proofs.YtpklkefnmoaaaaaGreatDoor

/- Rows of proofs of the call's own. -/
namespace Go.Proofs.YtpklkefnmoaaaaaGreatDoor
open Go.RowKit
set_option linter.unusedVariables false
set_option linter.unusedSimpArgs false
/-- A proof in memory: its size, its index, the slice of its nodes, and what that holds. -/
structure PR where
  n : Nat
  i : Nat
  sv : Value
  hs : List (Array Value)
def PR.dat (x : PR) : Nat × Nat × List (Array Value) := (x.n, x.i, x.hs)
def PR.cs (x : PR) : Array Value := #[.int .u64 (x.n : Int), .int .u64 (x.i : Int), x.sv]
def prC (l : List PR) : List Value := l.flatMap fun x => x.cs.toList
theorem prC_len (l : List PR) : (prC l).length = l.length * 3 := by
  induction l with
  | nil => rfl
  | cons x l ih =>
    show (x.cs.toList ++ prC l).length = _
    rw [List.length_append, ih, List.length_cons]
    show 3 + _ = _
    omega
theorem prC_at : ∀ (l : List PR) (k : Nat) (hk : k < l.length) (j : Nat) (hj : j < 3), (prC l)[k * 3 + j]? = (l[k]).cs[j]? := by
  intro l
  induction l with
  | nil => intro k hk; simp at hk
  | cons x l ih =>
    intro k hk j hj
    show (x.cs.toList ++ prC l)[k * 3 + j]? = _
    have h3 : x.cs.toList.length = 3 := rfl
    cases k with
    | zero =>
      rw [List.getElem?_append_left (by rw [h3]; omega)]
      simp
    | succ k =>
      rw [List.getElem?_append_right (by rw [h3]; omega), h3, show (k + 1) * 3 + j - 3 = k * 3 + j from by omega, ih k (by simpa using hk) j hj]
      simp
theorem u_proofs : Tryz.prog.underlying 53 = some (.slice 59) := by kernel_rfl
theorem i_Proof : (Tryz.prog.info? 59).map (fun i => (i.zero, i.size, i.bytes)) = some (some (.agg #[.int .u64 0, .int .u64 0, .slice none 0 0]), 3, 40) := by kernel_rfl
structure PsOwn (w : World) (B : Nat) (v : Value) (l : List PR) : Prop where
  row : w.ownsRow B 59 3 v l.length (prC l)
  own : ∀ x ∈ l, HOwn w B x.sv x.hs
  ap : ∀ x ∈ l, ∀ k ∈ ob x.sv, k ∉ ob v
theorem PsOwn.nil (w : World) (B : Nat) : PsOwn w B (.slice none 0 0) [] := ⟨own_nil _ _ _ _, by simp, by simp⟩
theorem PsOwn.chg0 {w w' : World} {B : Nat} {v : Value} {l : List PR} (h : PsOwn w B v l) (hc : Chg [] w w') : PsOwn w' B v l := ⟨own_chg h.row hc (by simp), fun x hx => (h.own x hx).chg hc (by simp), h.ap⟩
theorem PsOwn.chg {w w' : World} {B : Nat} {v : Value} {l : List PR} {F : List Nat} (h : PsOwn w B v l) (hc : Chg F w w') (h1 : ∀ k ∈ ob v, k ∉ F) (h2 : ∀ x ∈ l, ∀ k ∈ ob x.sv, k ∉ F) : PsOwn w' B v l := ⟨own_chg h.row hc h1, fun x hx => (h.own x hx).chg hc (h2 x hx), h.ap⟩
theorem PsOwn.mono {w : World} {B B' : Nat} {v : Value} {l : List PR} (h : PsOwn w B v l) (hB : B' ≤ B) : PsOwn w B' v l := ⟨own_mono h.row hB, fun x hx => ⟨own_mono (h.own x hx).1 hB, (h.own x hx).2⟩, h.ap⟩
theorem PsOwn.shp {w : World} {B : Nat} {v : Value} {l : List PR} (h : PsOwn w B v l) : ∃ a cap, v = .slice a l.length cap := by
  rcases h.row.2 with ⟨rfl, h0⟩ | ⟨g, cap, cur, rfl, _⟩
  · exact ⟨none, 0, by rw [h0]⟩
  · exact ⟨_, cap, rfl⟩
theorem PsOwn.cells {w : World} {B : Nat} {v : Value} {l : List PR} (h : PsOwn w B v l) : ∃ a cap, v = .slice a l.length cap ∧ (l = [] ∨ ∃ g, a = some ⟨g, 0, none⟩ ∧ g < w.heap.size ∧ ∀ k (hk : k < l.length), w.cell? ⟨g, k * 3, none⟩ = some (.int .u64 (l[k].n : Int)) ∧ w.cell? ⟨g, k * 3 + 1, none⟩ = some (.int .u64 (l[k].i : Int)) ∧ w.cell? ⟨g, k * 3 + 2, none⟩ = some l[k].sv) := by
  rcases h.row.2 with ⟨rfl, h0⟩ | ⟨g, cap, cur, rfl, hb, hh, hnc, hm, hcs, ht⟩
  · exact ⟨none, 0, by rw [h0], .inl (List.eq_nil_of_length_eq_zero h0)⟩
  · refine ⟨_, cap, rfl, .inr ⟨g, rfl, blk_lt hh, fun k hk => ?_⟩⟩
    have key : ∀ j, j < 3 → ∀ u, (l[k]).cs[j]? = some u → w.cell? ⟨g, k * 3 + j, none⟩ = some u := fun j hj u hu => by
      refine blk_cell hh (k * 3 + j) ?_
      have e := prC_at l k hk j hj
      rw [← ht, List.getElem?_take, hu] at e
      split at e
      · rw [← Array.getElem?_toList, e]
      · cases e
    exact ⟨key 0 (by omega) _ rfl, key 1 (by omega) _ rfl, key 2 (by omega) _ rfl⟩
theorem PsOwn.push {w : World} {B : Nat} {v : Value} {l : List PR} (h : PsOwn w B v l) (x : PR) (hx : HOwn w B x.sv x.hs) (hap : ∀ k ∈ ob x.sv, k ∉ ob v) (hlen : l.length ≤ 1000000) (hB : B ≤ w.heap.size) (ty : TypeId) :
    ∃ v' w', (Builtin.append_ #[53, 53] ty #[v, .slice (some ⟨w.heap.size, 0, none⟩) 1 1]).run Tryz.prog (w.alloc (.cells #[.int .u64 (x.n : Int), .int .u64 (x.i : Int), x.sv] 59)) = .ok v' w' ∧ PsOwn w' B v' (l ++ [x]) ∧ Chg (ob v) w w' ∧ (∀ k ∈ ob v', k ∈ ob v ∨ w.heap.size ≤ k) := by
  obtain ⟨i, hi, hz, hsz, hby⟩ := infoOf i_Proof
  have hc : Chg [] w (w.alloc (.cells x.cs 59)) := (Chg.refl _ _).alloc _
  have h1 := own_chg h.row hc (by simp)
  obtain ⟨sa, scap, hsv⟩ : ∃ a cap, x.sv = .slice a x.hs.length cap := by
    obtain ⟨_, a, cap, hv, _⟩ := hx.hs
    exact ⟨a, cap, hv⟩
  obtain ⟨v', w', hr, h2, h3, h4⟩ := run_append_any (P := Tryz.prog) (w.alloc (.cells x.cs 59)) B 53 ty 59 i _ 3 40 u_proofs hi hz hsz hby rfl (by decide) v l.length _ h1 (some ⟨w.heap.size, 0, none⟩) 1 1 x.cs.toList
    ⟨rfl, fun _ => ⟨w.heap.size, 0, rfl, fun j u hu => by
      rw [Nat.zero_add]
      exact blk_cell (blk_new w _) j (by rw [← Array.getElem?_toList]; exact hu)⟩⟩ (by
        intro u hu
        simp only [PR.cs, List.mem_cons, List.not_mem_nil, or_false] at hu
        rcases hu with rfl | rfl | rfl
        · rfl
        · rfl
        · rw [hsv]; rfl) (by unfold maxLen; omega) (by omega) (by have := hc.size; omega)
  have h5 : ∀ k ∈ ob v', k ∈ ob v ∨ w.heap.size ≤ k := fun k hk => by
    rcases h4 k hk with q | q
    · exact .inl q
    · right; have := hc.size; omega
  have h6 : Chg (ob v) w w' := hc.of_nil.trans h3 (fun k hk => .inl hk)
  refine ⟨v', w', hr, ⟨?_, fun y hy => ?_, fun y hy k hk hk2 => ?_⟩, h6, h5⟩
  · rw [List.length_append, show prC (l ++ [x]) = prC l ++ x.cs.toList from by simp [prC]]
    exact h2
  · rcases List.mem_append.1 hy with q | q
    · exact (h.own y q).chg h6 (h.ap y q)
    · rw [List.mem_singleton.1 q]; exact hx.chg h6 hap
  · have hlt : k < w.heap.size := by
      rcases List.mem_append.1 hy with q | q
      · exact (own_lt (h.own y q).1 k hk).2
      · rw [List.mem_singleton.1 q] at hk; exact (own_lt hx.1 k hk).2
    rcases h5 k hk2 with q | q
    · rcases List.mem_append.1 hy with p | p
      · exact h.ap y p k hk q
      · rw [List.mem_singleton.1 p] at hk; exact hap k hk q
    · omega
end Go.Proofs.YtpklkefnmoaaaaaGreatDoor

/- SameHashes, SameProofs at equal lists (massifref7). -/
namespace Go.Proofs.YtpklkefnmoaaaaaGreatDoor
open Go.RowKit
set_option linter.unusedVariables false
set_option linter.unusedSimpArgs false
set_option maxRecDepth 100000 in
theorem sameHs_calls (w : World) (va vb : Value) (l : List (Array Value)) (ha : HsIs w va l) (hb : HsIs w vb l) (hlen : l.length ≤ 1000000) : Calls Tryz.prog 46 #[va, vb] w (Res w [] (.bool true)) := by
  obtain ⟨hI, a, cap, rfl, hr⟩ := ha
  obtain ⟨_, b, cap2, rfl, hr2⟩ := hb
  go_enter Tryz.func46, Tryz.ntmps46
  go_wp2
  obtain ⟨wo, rfl⟩ : ∃ wo : World, wo = w := ⟨_, rfl⟩
  go_loopg [5] l.length (fun g ii wx => ∃ n : Nat, n ≤ l.length ∧ g = l.length - n ∧ ii = .int .i64 n ∧ Chg [] wo wx)
  case atStart => exact ⟨0, by omega, by omega, rfl, Chg.refl _ _⟩
  case round =>
    obtain ⟨n, hnl, hg, rfl, hC⟩ := hrel
    by_cases hlt : n < l.length
    · have hlt' : n < l.length := hlt
      rcases hr with hr | ⟨pb, po, rfl, hpb, hr⟩
      · subst hr; simp at hlt'
      rcases hr2 with hr2 | ⟨qb, qo, rfl, hqb, hr2⟩
      · subst hr2; simp at hlt'
      have r1 := rng?_chg hC (hr n hlt') (by omega) (by simp)
      have r2 := rng?_chg hC (hr2 n hlt') (by omega) (by simp)
      have hI1 := hI _ (List.getElem_mem hlt')
      have l1 := World.block_lt_of_cell? _ _ ((rng?_cell r1).2 0 (by rw [(rng?_cell r1).1]; omega))
      have l2 := World.block_lt_of_cell? _ _ ((rng?_cell r2).2 0 (by rw [(rng?_cell r2).1]; omega))
      have heq : eqH l[n] l[n] = true := eqH_self
      have n0 : (0 : Int) ≤ (n : Int) := by omega
      have n1 : (n : Int) < (l.length : Int) := by omega
      have hs1 := hI1.1
      have hs2 := hI1.one
      have HG := Lib.hid hg
      clear hg hI hr hr2
      generalize l[n] = x at *
      go_upto_region 6 with (fail)
      go_quiet (fail)
      go_wp2
      go_roundg (l.length - (n + 1))
      case measure => rw [HG.out]; omega
      case rel => exact ⟨n + 1, by omega, rfl, by go_num, hC.drewN _⟩
    · obtain rfl : n = l.length := by omega
      clear hg hr hr2
      go_wp2
      go_ret
      exact ⟨rfl, hC⟩


set_option maxRecDepth 100000 in
theorem sameP_calls (w : World) (n i : Nat) (va vb : Value) (l : List (Array Value)) (ha : HsIs w va l) (hb : HsIs w vb l) (hlen : l.length ≤ 1000000) : Calls Tryz.prog 28 #[.agg #[.int .u64 n, .int .u64 i, va], .agg #[.int .u64 n, .int .u64 i, vb]] w (Res w [] (.bool true)) := by
  have h0 : ∀ W, Chg [] w W → Calls Tryz.prog 46 #[va, vb] W (Res W [] (.bool true)) := fun W hc => sameHs_calls W va vb l (ha.chg hc (by simp)) (hb.chg hc (by simp)) hlen
  have e1 : ((n : Int) == (n : Int)) = true := by simp
  have e2 : ((i : Int) == (i : Int)) = true := by simp
  have H0 := Lib.hid h0
  have hc : Chg [] w ((w.alloc (.cells #[.int .u64 n, .int .u64 i, va] 59)).alloc (.cells #[.int .u64 n, .int .u64 i, vb] 59)) := ((Chg.refl _ _).alloc _).alloc _
  clear h0 ha hb
  go_enter Tryz.func28, Tryz.ntmps28
  go_wp2_with (go_at_call 46; refine (H0.out _ hc).mono ?_; rintro e w1 ⟨rfl, hc1⟩)
  go_ret
  exact ⟨rfl, hc.nil_trans hc1⟩
end Go.Proofs.YtpklkefnmoaaaaaGreatDoor
