/- Texts put into one by pack.py: HandK Nums PvE RowU. -/
import Derived.Deep.RegionHeld3
import Derived.Deep.MidRow
import Derived.ProofKit
import Derived.OpenShut
import Derived.ShutString
import Derived.ChangeOld
import Derived.Deep.Slices
import Derived.JoinedCond
import Derived.Handed
import Derived.LaidLaws
import Derived.Test.YtpklkefnmoaaaaaGreatDoorPkA
import Derived.Test.YtpklkefnmoaaaaaGreatDoorPkY
import Derived.Test.YtpklkefnmoaaaaaGreatDoorPkU
import Derived.Test.YtpklkefnmoaaaaaGreatDoorPkW
import Derived.Test.YtpklkefnmoaaaaaGreatDoorPlIp
import Derived.Test.YtpklkefnmoaaaaaGreatDoorPkV
import Derived.Test.YtpklkefnmoaaaaaGreatDoorPkX
import Derived.Test.YtpklkefnmoaaaaaGreatDoorPkK
/- A region walked by hand: the condition on the world may be made stronger on the way (what a call of the region has made is known from there on). Nothing of a program. -/
namespace Go.Proofs.YtpklkefnmoaaaaaGreatDoor
open Go.RowKit
set_option linter.unusedVariables false
set_option linter.unusedSimpArgs false
theorem wpAnyH_more {P : Program} {md : Region.Mode} {ops : Array Oper} {Q : Exit → Act → World → Prop} {S S' : World → Prop} (hi : ∀ w, S' w → S w) :
    ∀ (fuel : Nat) (listed : Array Bool) (a : Act) (w : World), wpAnyH P md ops Q S' fuel listed a w → wpAnyH P md ops Q S fuel listed a w
  | 0, _, _, _, h => h
  | fuel + 1, _, _, _, h => ⟨h.1, fun i hi' => wpOp_mono (fun a' w' h' => ⟨hi _ h'.1, wpAnyH_more hi fuel _ a' w' h'.2⟩) (h.2 i hi')⟩
end Go.Proofs.YtpklkefnmoaaaaaGreatDoor

/- Lists of numbers that came in. -/
namespace Go.Proofs.YtpklkefnmoaaaaaGreatDoor
open Go.ChangeShapes Go.WideShapes Go.ChangeAt Go.RowKit
set_option linter.unusedVariables false
set_option linter.unusedSimpArgs false

/-- A list of numbers of a kind that came in. -/
def NsIs (k : IntKind) (w : World) (v : Value) (ns : List Int) : Prop :=
  (∀ n ∈ ns, (Lit.int k n).wf = true) ∧ ∃ a cap, v = .slice a ns.length cap ∧ (ns = [] ∨ ∃ b o, a = some ⟨b, o, none⟩ ∧ b < w.heap.size ∧ ∀ i (hi : i < ns.length), w.cell? ⟨b, o + i, none⟩ = some (.int k ns[i]))
theorem NsIs.chg {k : IntKind} {w w' : World} {v : Value} {ns : List Int} {F : List Nat} (h : NsIs k w v ns) (hc : Chg F w w') (hF : ∀ k ∈ F, w.heap.size ≤ k) : NsIs k w' v ns := by
  obtain ⟨h1, a, cap, hv, h2⟩ := h
  refine ⟨h1, a, cap, hv, ?_⟩
  rcases h2 with h2 | ⟨b, o, ha, hb, hr⟩
  · exact .inl h2
  · refine .inr ⟨b, o, ha, by have := hc.size; omega, fun i hi => ?_⟩
    rw [hc.cell (p := ⟨b, o + i, none⟩) hb (fun e => by have : w.heap.size ≤ b := hF _ e; omega)]
    exact hr i hi
theorem wf_u64 {n : Int} (h : (Lit.int .u64 n).wf = true) : 0 ≤ n ∧ n < 18446744073709551616 := by
  simp [Lit.wf, IntKind.min, IntKind.max, IntKind.signed, IntKind.bits] at h
  omega
theorem wf_i64 {n : Int} (h : (Lit.int .i64 n).wf = true) : -9223372036854775808 ≤ n ∧ n < 9223372036854775808 := by
  simp [Lit.wf, IntKind.min, IntKind.max, IntKind.signed, IntKind.bits] at h
  omega

section
variable {H : Type} {enc : TypeId × Value → H} {W : World} {base : Nat} {spare : Nat → Bool} {held : Bool}
theorem open_nums {t e : TypeId} {k : IntKind} (ht : Tryz.prog.underlying t = some (.slice e)) (he : Tryz.prog.underlying e = some (.int k)) (hc : Tryz.prog.cellsOf e = 1) {fuel : Nat} {a : Option Addr} {len cap : Nat} {x : DataW H × List MemPlace} (h : DataW.trod enc Tryz.prog W base spare held fuel t [.slice a len cap] = some x) : ∃ ns, NsIs k W (.slice a len cap) ns := by
  rcases Deep.open_slice1 ht hc h with ⟨hc, _⟩ | ⟨a', len', cap', m, n, V, D, Pl, hcs, _, hle, _, hm, _, hx⟩
  · simp at hc
    obtain ⟨rfl, rfl, rfl⟩ := hc
    exact ⟨[], by simp, none, 0, rfl, .inl rfl⟩
  · simp at hcs
    obtain ⟨rfl, rfl, rfl⟩ := hcs
    have hlm : len ≤ m := by rw [hm]; split <;> omega
    obtain ⟨f, hf⟩ := Deep.choose_lt (α := Int) (n := len) (p := fun i z => (Lit.int k z).wf = true ∧ W.cell? (a'.add i) = some (.int k z)) (by
      intro i hi
      obtain ⟨h1, h2⟩ := hx i (by omega)
      obtain ⟨z, hz, _, hw⟩ := DataW.trod_int he h2
      simp at hz
      exact ⟨z, hw, by rw [h1, hz]⟩)
    refine ⟨(List.range len).map f, ?_, some a', cap, by simp, ?_⟩
    · intro z hz
      obtain ⟨i, hi, rfl⟩ := List.mem_map.1 hz
      exact (hf i (List.mem_range.1 hi)).1
    · by_cases h0 : len = 0
      · left; simp [h0]
      · right
        obtain ⟨b, o, sp⟩ := a'
        have h1 := (hf 0 (by omega)).2
        have hsp : sp = none := by simpa [Addr.add] using World.cell?_spot h1
        subst hsp
        refine ⟨b, o, rfl, by simpa [Addr.add] using World.block_lt_of_cell? _ _ h1, ?_⟩
        intro i hi
        simp at hi
        simp only [List.getElem_map, List.getElem_range]
        have := (hf i hi).2
        rw [Addr.add_mid] at this
        exact this
end
end Go.Proofs.YtpklkefnmoaaaaaGreatDoor

/- FindProves: a find and both trees side by side; the law walked. -/
namespace Go.Proofs.YtpklkefnmoaaaaaGreatDoor
open Go.RowKit
set_option linter.unusedVariables false
set_option linter.unusedSimpArgs false
/-- A find and both trees, all made since w0. -/
structure L22 (w0 w : World) (fb b rb : Nat) (f : FS) (t : TS) (r : RT) : Prop where
  two : Two [] w0 w b rb t r
  fd : FdOf [] w0 w fb f
  ap : ∀ x ∈ f.foot fb, x ∉ t.foot b ∧ x ∉ r.foot rb
section
variable {w0 w w' : World} {fb b rb : Nat} {f : FS} {t t' : TS} {r r' : RT}
theorem Two.compO {F0 F1 : List Nat} {w1 w2 : World} {t1 t2 : TS} {r1 r2 : RT} (h : Two F0 w0 w1 b rb t1 r1) (k : Two F1 w1 w2 b rb t2 r2) (hF : ∀ x ∈ F1, x ∈ F0 ∨ w0.heap.size ≤ x) : Two F0 w0 w2 b rb t2 r2 :=
  ⟨k.tr, k.rf, k.ap, h.chg.trans k.chg hF, fun x hx => (k.ownT x hx).elim (hF x) (fun q => .inr (by have := h.chg.size; omega)), fun x hx => (k.ownR x hx).elim (hF x) (fun q => .inr (by have := h.chg.size; omega))⟩
theorem L22.chg0 (h : L22 w0 w fb b rb f t r) (hc : Chg [] w w') : L22 w0 w' fb b rb f t r := ⟨h.two.chg0 hc, h.fd.chg0 hc, h.ap⟩
theorem L22.own (h : L22 w0 w fb b rb f t r) : ∀ k ∈ t.foot b ++ r.foot rb, w0.heap.size ≤ k := fun k hk => by
  rcases List.mem_append.1 hk with q | q
  · exact (h.two.ownT k q).resolve_left (by simp)
  · exact (h.two.ownR k q).resolve_left (by simp)
theorem L22.trees (h : L22 w0 w fb b rb f t r) (k : Two (t.foot b ++ r.foot rb) w w' b rb t' r') : L22 w0 w' fb b rb f t' r' := by
  have hlt := h.fd.is.lt
  refine ⟨h.two.compO k (fun x hx => .inr (h.own x hx)), ⟨h.fd.is.chg k.chg (fun x hx hm => ?_), h.fd.chg.trans k.chg (fun x hx => .inr (h.own x hx)), h.fd.foot⟩, fun x hx => ⟨fun hm => ?_, fun hm => ?_⟩⟩
  · rcases List.mem_append.1 hm with q | q
    · exact (h.ap x hx).1 q
    · exact (h.ap x hx).2 q
  · rcases k.ownT x hm with q | q
    · rcases List.mem_append.1 q with q | q
      · exact (h.ap x hx).1 q
      · exact (h.ap x hx).2 q
    · have := hlt x hx; omega
  · rcases k.ownR x hm with q | q
    · rcases List.mem_append.1 q with q | q
      · exact (h.ap x hx).1 q
      · exact (h.ap x hx).2 q
    · have := hlt x hx; omega
theorem L22.app (h : L22 w0 w fb b rb f t r) (h1 : TrIs w' b t') (h2 : Chg (t.foot b) w w') (h3 : ∀ k ∈ t'.foot b, k ∈ t.foot b ∨ w.heap.size ≤ k) : L22 w0 w' fb b rb f t' r := by
  have := h.two.here.movT h1 h2 h3
  exact h.trees this
theorem L22.add (h : L22 w0 w fb b rb f t r) {k : HK} {e : Ending} (hp : AddP w fb f k e w') : e = .returned (.int .u64 (f.ls.length : Nat)) ∧ ∃ f', L22 w0 w' fb b rb f' t r ∧ f'.ls = f.ls ++ [k] ∧ Chg (f.foot fb) w w' := by
  obtain ⟨f', he, h1, h2, h3, h4⟩ := hp
  have hlT := h.two.tr.lt
  have hlR := h.two.rf.lt
  have h5 : ∀ x ∈ f.foot fb, x ∈ ([] : List Nat) ∨ w0.heap.size ≤ x := h.fd.foot
  have hs := h.two.chg.size
  have h6 : ∀ x ∈ f'.foot fb, x ∉ t.foot b ∧ x ∉ r.foot rb := fun x hx => by
    rcases h4 x hx with q | q
    · exact h.ap x q
    · exact ⟨fun hm => by have := hlT x hm; omega, fun hm => by have := hlR x hm; omega⟩
  refine ⟨he, f', ⟨⟨h.two.tr.chg h3 (fun x hx hm => (h.ap x hm).1 hx), h.two.rf.chg h3 (fun x hx hm => (h.ap x hm).2 hx), h.two.ap, h.two.chg.trans h3 h5, h.two.ownT, h.two.ownR⟩, ⟨h1, h.fd.chg.trans h3 h5, fun x hx => ?_⟩, h6⟩, h2, h3⟩
  rcases h4 x hx with q | q
  · exact h5 x q
  · right; omega
theorem L22.new {w1 w2 w3 w4 : World} (hf : FdOf [] w0 w1 fb f) (ht1 : TrIs w2 b t) (ht2 : Chg [] w1 w2) (ht3 : ∀ k ∈ t.foot b, w1.heap.size ≤ k) (hc3 : Chg [] w2 w3) (hr1 : RtIs w4 rb r) (hr3 : Chg [] w3 w4) (hr4 : ∀ k ∈ r.foot rb, w3.heap.size ≤ k) : L22 w0 w4 fb b rb f t r := by
  have hc4 := hc3.nil_trans hr3
  have hfl := hf.is.lt
  have htl := ht1.lt
  have s1 := hf.chg.size
  have s2 := ht2.size
  have s3 := hc3.size
  refine ⟨⟨ht1.chg0 hc4, hr1, fun x hx hm => ?_, hf.chg.nil_trans (ht2.nil_trans hc4), fun x hx => .inr ?_, fun x hx => .inr ?_⟩, hf.chg0 (ht2.nil_trans hc4), fun x hx => ⟨fun hm => ?_, fun hm => ?_⟩⟩
  · have := htl x hx; have := hr4 x hm; omega
  · have := ht3 x hx; omega
  · have := hr4 x hx; omega
  · have := hfl x hx; have := ht3 x hm; omega
  · have := hfl x hx; have := hr4 x hm; omega
theorem TL.zero {wd : Int} (h1 : t.wd = widthI wd) (h2 : t.size = 0) (h3 : t.s.n = 0) (h4 : t.s.cks = []) (h5 : t.s.pins = []) : TL t wd [] := by
  refine ⟨h1, h2, ?_, fun p => by unfold SS.pin; rw [h5]; rfl, by unfold SS.alive; rw [h4]; simp⟩
  unfold SS.view
  rw [h3]
  show _ = NV.zero
  unfold NV.zero
  congr 1
  funext p
  exact SS.node_nil h4 p
/-- Behind so many leaves: both trees, the find, the list of indices. -/
structure P22 (w0 w : World) (fb b rb : Nat) (f : FS) (t : TS) (r : RT) (wd : Int) (lt lf : List HK) (v : Value) (l : List Nat) : Prop where
  st : L22 w0 w fb b rb f t r
  tl : TL t wd (lt.map (·.1))
  fl : f.ls = lf
  row : UOwn w w0.heap.size v l
  free : ∀ x ∈ ob v, x ∉ f.foot fb ∧ x ∉ t.foot b ∧ x ∉ r.foot rb
variable {wd : Int} {lt lf : List HK} {v : Value} {l : List Nat}
theorem P22.chg (h : P22 w0 w fb b rb f t r wd lt lf v l) : Chg [] w0 w := h.st.two.chg
theorem P22.chg0 (h : P22 w0 w fb b rb f t r wd lt lf v l) (hc : Chg [] w w') : P22 w0 w' fb b rb f t r wd lt lf v l := ⟨h.st.chg0 hc, h.tl, h.fl, own_chg h.row hc (by simp), h.free⟩
theorem P22.appCalls (h : P22 w0 w fb b rb f t r wd lt lf v l) (x : HK) (hk : HIs w0) (hl : lt.length ≤ 100) : Calls Tryz.prog 21 #[.pointer (some ⟨b, 0, none⟩), .agg x.1] w (AppP w b t x.1) := by
  have hs := h.tl.size
  have ha := h.tl.al
  rw [List.length_map] at hs ha
  exact append_calls w b t x.1 h.st.two.tr x.2 (hk.chg0 h.chg) (by omega) h.tl.full (by omega)
theorem P22.app (h : P22 w0 w fb b rb f t r wd lt lf v l) {x : HK} {e : Ending} (hp : AppP w b t x.1 e w') (hl : lt.length ≤ 100) : e = .returned (.int .u64 (lt.length : Nat)) ∧ ∃ t', P22 w0 w' fb b rb f t' r wd (lt ++ [x]) lf v l := by
  have hs := h.tl.size
  rw [List.length_map] at hs
  obtain ⟨he, t', h1, h2, h3, h4⟩ := h.tl.app hp (by have := t1_le t.size (by omega); omega)
  rw [List.length_map] at he
  refine ⟨he, t', h.st.app h1 h3 h4, by rw [List.map_append]; exact h2, h.fl, own_chg h.row h3 (fun y hy => (h.free y hy).2.1), fun y hy => ⟨(h.free y hy).1, fun hm => ?_, (h.free y hy).2.2⟩⟩
  rcases h4 y hm with q | q
  · exact (h.free y hy).2.1 q
  · have := (own_lt h.row y hy).2; omega
theorem P22.addCalls (h : P22 w0 w fb b rb f t r wd lt lf v l) (x : HK) (hl : lf.length ≤ 100) : Calls Tryz.prog 22 #[.pointer (some ⟨fb, 0, none⟩), .agg x.1] w (AddP w fb f x) := dAdd_calls w fb f h.st.fd.is (by rw [h.fl]; omega) x
theorem P22.add (h : P22 w0 w fb b rb f t r wd lt lf v l) {x : HK} {e : Ending} (hp : AddP w fb f x e w') : e = .returned (.int .u64 (lf.length : Nat)) ∧ ∃ f', P22 w0 w' fb b rb f' t r wd lt (lf ++ [x]) v l := by
  obtain ⟨he, f', h1, h2, h3⟩ := h.st.add hp
  obtain ⟨f2, _, k1, k2, k3, k4⟩ := hp
  refine ⟨by rw [he, h.fl], ?_⟩
  have h5 := L22.add h.st (e := e) ⟨f2, by rw [he], k1, k2, k3, k4⟩
  have h6 : L22 w0 w' fb b rb f2 t r := by
    have h5' : ∀ x ∈ f.foot fb, x ∈ ([] : List Nat) ∨ w0.heap.size ≤ x := h.st.fd.foot
    have hlT := h.st.two.tr.lt
    have hlR := h.st.two.rf.lt
    have hs := h.st.two.chg.size
    refine ⟨⟨h.st.two.tr.chg k3 (fun x hx hm => (h.st.ap x hm).1 hx), h.st.two.rf.chg k3 (fun x hx hm => (h.st.ap x hm).2 hx), h.st.two.ap, h.st.two.chg.trans k3 h5', h.st.two.ownT, h.st.two.ownR⟩, ⟨k1, h.st.fd.chg.trans k3 h5', fun x hx => ?_⟩, fun x hx => ?_⟩
    · rcases k4 x hx with q | q
      · exact h5' x q
      · right; omega
    · rcases k4 x hx with q | q
      · exact h.st.ap x q
      · exact ⟨fun hm => by have := hlT x hm; omega, fun hm => by have := hlR x hm; omega⟩
  refine ⟨f2, h6, h.tl, by rw [k2, h.fl], own_chg h.row k3 (fun y hy => (h.free y hy).1), fun y hy => ⟨fun hm => ?_, (h.free y hy).2⟩⟩
  rcases k4 y hm with q | q
  · exact (h.free y hy).1 q
  · have := (own_lt h.row y hy).2; omega
theorem P22.put (h : P22 w0 w fb b rb f t r wd lt lf v l) (x : Nat) (hl : l.length ≤ 100) (ty : TypeId) :
    ∃ v' w', (Builtin.append_ #[44, 44] ty #[v, .slice (some ⟨w.heap.size, 0, none⟩) 1 1]).run Tryz.prog (w.alloc (.cells #[.int .u64 x] 38)) = .ok v' w' ∧ P22 w0 w' fb b rb f t r wd lt lf v' (l ++ [x]) := by
  obtain ⟨v', w', h1, h2, h3, h4⟩ := h.row.push x (by omega) h.chg.size ty
  have hF : Chg [] w0 w' := h.chg.trans h3 (fun y hy => .inr (own_lt h.row y hy).1)
  refine ⟨v', w', h1, ⟨⟨h.st.two.tr.chg h3 (fun y hy hm => (h.free y hm).2.1 hy), h.st.two.rf.chg h3 (fun y hy hm => (h.free y hm).2.2 hy), h.st.two.ap, hF, h.st.two.ownT, h.st.two.ownR⟩, ⟨h.st.fd.is.chg h3 (fun y hy hm => (h.free y hm).1 hy), hF, h.st.fd.foot⟩, h.st.ap⟩, h.tl, h.fl, h2, fun y hy => ?_⟩
  rcases h4 y hy with q | q
  · exact h.free y q
  · exact ⟨fun hm => by have := h.st.fd.is.lt y hm; omega, fun hm => by have := h.st.two.tr.lt y hm; omega, fun hm => by have := h.st.two.rf.lt y hm; omega⟩
/-- While nodes are dropped. -/
structure Q22 (w0 w : World) (fb b rb : Nat) (f : FS) (t : TS) (r : RT) (m : Nat) (lf : List HK) (v : Value) (l : List Nat) : Prop where
  st : L22 w0 w fb b rb f t r
  rel : Rel t r m
  fl : f.ls = lf
  row : UOwn w w0.heap.size v l
  free : ∀ x ∈ ob v, x ∉ f.foot fb ∧ x ∉ t.foot b ∧ x ∉ r.foot rb
variable {m : Nat}
theorem P22.q (h : P22 w0 w fb b rb f t r wd lt lf v l) (hr : RL r wd (lt.map (·.1))) : Q22 w0 w fb b rb f t r (lt.map (·.1)).length lf v l := ⟨h.st, h.tl.rel hr, h.fl, h.row, h.free⟩
theorem Q22.chg (h : Q22 w0 w fb b rb f t r m lf v l) : Chg [] w0 w := h.st.two.chg
theorem Q22.chg0 (h : Q22 w0 w fb b rb f t r m lf v l) (hc : Chg [] w w') : Q22 w0 w' fb b rb f t r m lf v l := ⟨h.st.chg0 hc, h.rel, h.fl, own_chg h.row hc (by simp), h.free⟩
/-- A number of a list that came in, and the document's tree's store, wherever. -/
def S22 (db dp p rb c : Nat) (W : World) : Prop := W.cell? ⟨db, dp, none⟩ = some (.int .u64 (p : Int)) ∧ W.cell? ⟨rb, 2, none⟩ = some (.pointer (some ⟨c, 0, none⟩)) ∧ db < W.heap.size ∧ rb < W.heap.size
theorem Q22.s (h : Q22 w0 w fb b rb f t r m lf v l) {db dp p : Nat} (hd : db < w0.heap.size) (hp : w0.cell? ⟨db, dp, none⟩ = some (.int .u64 (p : Int))) : S22 db dp p rb r.c w :=
  ⟨(h.chg.cell (p := ⟨db, dp, none⟩) hd (by simp)).trans hp, blk_cell h.st.two.rf.mem 2 rfl, by have := h.chg.size; omega, blk_lt h.st.two.rf.mem⟩
theorem Q22.drop1 (h : Q22 w0 w fb b rb f t r m lf v l) {p : Nat} (hp : p < 18446744073709551616) : Calls Tryz.prog 23 #[.pointer (some ⟨t.sb, 0, none⟩), .int .u64 p] w (Side1 (t.foot b ++ r.foot rb) w b rb r (m + 1) (dDrop r.d.ns p) t (.int .i64 (dDropE r.d.ns p))) := two_drop h.st.two.here h.rel hp
theorem Q22.drop2 (h : Q22 w0 w fb b rb f t r m lf v l) {p : Nat} {w1 : World} {e : Ending} {ns : List DN} {u : Value} (hs : Side1 (t.foot b ++ r.foot rb) w b rb r (m + 1) ns t u e w1) {db dp : Nat} (hd : db < w0.heap.size) (hp : w0.cell? ⟨db, dp, none⟩ = some (.int .u64 (p : Int))) :
    Calls Tryz.prog 24 #[.pointer (some ⟨r.c, 0, none⟩), .int .u64 p] w1 (DP w1 r.c r.d (dDrop r.d.ns p) (.int .i64 (dDropE r.d.ns p))) ∧ S22 db dp p rb r.c w1 := by
  obtain ⟨_, s', h1, h2⟩ := hs
  have hc : Chg [] w0 w1 := h.chg.trans h1.chg (fun x hx => .inr (h.st.own x hx))
  exact ⟨rdrop_calls r.c p r.d w1 h1.rf.st, (hc.cell (p := ⟨db, dp, none⟩) hd (by simp)).trans hp, blk_cell h1.rf.mem 2 rfl, by have := hc.size; omega, blk_lt h1.rf.mem⟩
theorem Q22.drop3 (h : Q22 w0 w fb b rb f t r m lf v l) {p : Nat} {w1 w2 : World} {e e2 : Ending} {u u2 : Value} (hs : Side1 (t.foot b ++ r.foot rb) w b rb r (m + 1) (dDrop r.d.ns p) t u e w1) (hq : DP w1 r.c r.d (dDrop r.d.ns p) u2 e2 w2) {db dp : Nat} (hd : db < w0.heap.size) (hp : w0.cell? ⟨db, dp, none⟩ = some (.int .u64 (p : Int))) :
    (∃ t' r', Q22 w0 w2 fb b rb f t' r' (m + 1) lf v l) ∧ S22 db dp p rb r.c w2 := by
  obtain ⟨t', r', h1, h2, _, hcc⟩ := hs.join hq
  have hc : Chg [] w0 w2 := h.chg.trans h1.chg (fun x hx => .inr (h.st.own x hx))
  have e2 := blk_cell h1.rf.mem 2 rfl
  rw [hcc] at e2
  have hfr : ∀ x ∈ ob v, x ∉ t.foot b ++ r.foot rb := fun x hx hm => by
    rcases List.mem_append.1 hm with q | q
    · exact (h.free x hx).2.1 q
    · exact (h.free x hx).2.2 q
  refine ⟨⟨t', r', h.st.trees h1, h2, h.fl, own_chg h.row h1.chg hfr, fun x hx => ⟨(h.free x hx).1, fun hm => ?_, fun hm => ?_⟩⟩, (hc.cell (p := ⟨db, dp, none⟩) hd (by simp)).trans hp, e2, by have := hc.size; omega, blk_lt h1.rf.mem⟩
  · rcases h1.ownT x hm with q | q
    · exact hfr x hx q
    · have := (own_lt h.row x hx).2; omega
  · rcases h1.ownR x hm with q | q
    · exact hfr x hx q
    · have := (own_lt h.row x hx).2; omega
theorem AtG.zero {gE : Nat → Int} {gH : Nat → Array Value} {ps : List Nat} {e : Ending} (h : AtG gE gH ps w e w') (h0 : atE gE ps = 0) : ∃ a cap, e = .returned (.tuple #[.slice a ps.length cap, .int .i64 0]) ∧ HOwn w' w.heap.size (.slice a ps.length cap) (ps.map gH) ∧ Chg [] w w' := by
  obtain ⟨a, cap, he, hO, hc⟩ := h
  rw [atL_all (atE_zeroO h0), List.length_map] at he hO
  rw [h0] at he
  exact ⟨a, cap, he, hO, hc⟩
theorem AtG.bad {gE : Nat → Int} {gH : Nat → Array Value} {ps : List Nat} {e : Ending} (h : AtG gE gH ps w e w') : ∃ a n cap, e = .returned (.tuple #[.slice a n cap, .int .i64 (atE gE ps)]) ∧ Chg [] w w' := by
  obtain ⟨a, cap, he, hO, hc⟩ := h
  exact ⟨a, _, cap, he, hc⟩
theorem Q22.prove (h : Q22 w0 w fb b rb f t r m lf v l) (hl : lf.length ≤ 100) (k : HK) : Calls Tryz.prog 27 #[.pointer (some ⟨fb, 0, none⟩), .iface 24 (.pointer (some ⟨b, 0, none⟩)), .agg k.1] w (ProveP (dE r.d) (dH r.d) lf.length (idxOf k lf) w) := by
  have e1 : t.s.getE = dE r.d := funext fun p => h.rel.getE' p
  have e2 : t.s.getH = dH r.d := funext fun p => h.rel.getH' p
  have := proveT_calls w fb f h.st.fd.is (by rw [h.fl]; omega) k b t.s.getE t.s.getH (fun p => IsHash.getH h.st.two.tr.st p) (fun p hp W hc => tNode_calls W b p t (h.st.two.tr.chg0 hc) hp)
  rw [e1, e2, h.fl] at this
  exact this
theorem Q22.at (h : Q22 w0 w fb b rb f t r m lf v l) {ps : List Nat} {pv : Value} {B : Nat} (hU : UOwn w B pv ps) (hp : ∀ p ∈ ps, p < 18446744073709551616) (hl : ps.length ≤ 125) : Calls Tryz.prog 26 #[.pointer (some ⟨rb, 0, none⟩), pv] w (AtG (dE r.d) (dH r.d) ps w) :=
  r6atL_calls w rb r h.st.two.rf pv ps B hU hp (by omega)
theorem Q22.getOk (h : Q22 w0 w fb b rb f t r m lf v l) (p : Nat) : IsHash (dH r.d p) := h.st.two.rf.st.getOk p
end
end Go.Proofs.YtpklkefnmoaaaaaGreatDoor

/- A row with a condition of its own, over laid variables: the builder; its witness. Nothing of a program. -/
namespace Go.Proofs.YtpklkefnmoaaaaaGreatDoor
open Go Go.ChangeShapes
set_option linter.unusedVariables false
section
variable {H : Type} {enc : TypeId × Value → H}
def upOf (s : ChangeSpec) (k : (H : Type) → List (DataW H) → Bool) : OpenSpec := { OpenSpec.ofChange s with cond := some k }
def preUB (enc : TypeId × Value → H) (P : Program) (f : Func) (s : ChangeSpec) (k : (H : Type) → List (DataW H) → Bool) (conds : List PathCond) (apart : Bool) (w : World) (args : Array Value) (fuel : Nat) : Bool :=
  match DataW.whole enc P w f.params.toList s.vars apart args.toList fuel with
  | some x => conds.all (PathCond.test P ⟨f.params.toList, x.1, s.plain.varTypes P, x.2.1⟩) && k H (x.1 ++ x.2.1)
  | none => false
theorem pre_of_preUB {P : Program} {w : World} {f : Func} {s : ChangeSpec} {k : (H : Type) → List (DataW H) → Bool} {conds : List PathCond} {apart : Bool} {args : Array Value} {fuel : Nat} (h : preUB enc P f s k conds apart w args fuel = true) : (upOf s k).pre enc P f conds apart w args := by
  unfold preUB at h
  split at h
  · rename_i x hx
    rw [Bool.and_eq_true] at h
    exact (OpenSpec.pre_some (s := upOf s k) rfl conds apart _ _).2 ⟨x.1, x.2.1, x.2.2, DataW.Whole_of_whole hx, h.1, h.2⟩
  · cases h
theorem witness_up {C : Checked} {os : Os} {f : FuncId} {fn : Func} {s : ChangeSpec} {k : (H : Type) → List (DataW H) → Bool} {conds : List PathCond} {apart : Bool} {X : World → Array Value → Prop} (modest : Bool) (w0 : World) (args : Array Value) (fuel : Nat) (hos : w0.os = os)
    (hsh : (w0.forCall (fun _ _ => 0) ⟨#[], args, []⟩).Shaped C.prog)
    (hok : Input.okWideB C.prog (w0.forCall (fun _ _ => 0) ⟨#[], args, []⟩) f ⟨#[], args, []⟩ = true)
    (hpre : preUB enc C.prog fn s k conds apart (w0.forCall (fun _ _ => 0) ⟨#[], args, []⟩).memory args fuel = true)
    (hsz : s.sizedB enc C.prog fn apart (w0.forCall (fun _ _ => 0) ⟨#[], args, []⟩).memory args fuel = true)
    (hx : X (w0.forCall (fun _ _ => 0) ⟨#[], args, []⟩).memory args) :
    ∃ (w : World) (tape : Tape) (i : Input), w.os = os ∧ (w.forCall tape i).Shaped C.prog ∧ i.vars = [] ∧ Input.okWide C.prog (w.forCall tape i) .any w.heap.size f i ∧
      (((upOf s k).pre enc C.prog fn conds apart (w.forCall tape i).memory i.args ∧ X (w.forCall tape i).memory i.args) ∧ sizedMet enc C.prog fn (upOf s k) apart (w.forCall tape i).memory i.args) ∧ ({ modest := modest } : Assume).holds C.prog (lone (Frame.enter C.prog f i.args .normal) [] (w.forCall tape i)) :=
  ⟨w0, fun _ _ => 0, ⟨#[], args, []⟩, hos, hsh, (Input.okWide_of_okWideB (base := 0) hok).1, (Input.okWide_of_okWideB hok).2, ⟨⟨pre_of_preUB hpre, hx⟩, sizedMet_of_sizedB hsz⟩, by
    simp only [Assume.holds]
    exact ⟨by simp, by simp, fun _ => Modest.zero, by simp, by simp⟩⟩
theorem handed_up {a : Assume} {C : Checked} {os : Os} {f : FuncId} {fn : Func} {s : ChangeSpec} {k : (H : Type) → List (DataW H) → Bool} {F : Stop.Interp} {conds : List PathCond} {apart fresh handsOn again : Bool} {X : World → Array Value → Prop}
    (hX : ∀ (w w' : World) (args : Array Value), w.heap = w'.heap → X w args → X w' args)
    (own : ownKnob C.prog.godebug = none) (started : os.Started) (noInit : C.prog.inits.idxOf? f = none) (hfn : C.prog.funcs[f]? = some fn)
    (witness : ∃ (w : World) (tape : Tape) (i : Input), w.os = os ∧ (w.forCall tape i).Shaped C.prog ∧ i.vars = [] ∧ Input.okWide C.prog (w.forCall tape i) .any w.heap.size f i ∧
      (((upOf s k).pre enc C.prog fn conds apart (w.forCall tape i).memory i.args ∧ X (w.forCall tape i).memory i.args) ∧ sizedMet enc C.prog fn (upOf s k) apart (w.forCall tape i).memory i.args) ∧ a.holds C.prog (lone (Frame.enter C.prog f i.args .normal) [] (w.forCall tape i)))
    (contract : ∀ (W : World) (base : Nat) (args : Array Value) (ds gs : List (DataW H)) (before : List MemPlace),
      (∀ (j : Nat) t v, fn.params[j]? = some t → args[j]? = some v → Value.okWide C.prog W .any base t v) →
      DataW.Whole enc C.prog fn.params.toList s.vars apart W args.toList ds gs before →
      (DataW.weightsEach C.prog (fn.params.toList ++ s.plain.varTypes C.prog) (ds ++ gs)).all (· ≤ reachBytes) = true → X W args →
      Calls C.prog f args W fun e W' => ∃ v, e = .returned v ∧ s.post enc C.prog fn apart fresh handsOn again W args v W') :
    ReturnsInHanded a C os f .any (fun w args => ((upOf s k).pre enc C.prog fn conds apart w args ∧ X w args) ∧ sizedMet enc C.prog fn (upOf s k) apart w args) (((upOf s k).at F).post enc C.prog fn apart fresh handsOn again) := by
  refine returnsInHanded_of_calls own started noInit witness ?_
  intro w tape i _ _ _ hok hpre hholds
  obtain ⟨_, _, _, fn', hfn', _, _, _, _, hval⟩ := hok
  have e : fn' = fn := Option.some.inj (hfn'.symm.trans hfn)
  subst e
  obtain ⟨⟨hp, hx⟩, hz⟩ := hpre
  obtain ⟨ds, gs, before, hw, hc, hkk⟩ := (OpenSpec.pre_some (s := upOf s k) rfl conds apart _ _).1 hp
  have hw' := DataW.Whole.of_heap (w' := w.forCall tape i) (by rfl) hw
  refine (contract (w.forCall tape i) w.heap.size i.args ds gs before hval hw' (hz.weights hw) (hX _ _ _ (by rfl) hx)).mono fun e W' ⟨v, he, hp⟩ => ?_
  subst he
  exact ChangeSpec.post_blind hp
end
theorem cells_agg {v : Value} (h : v.cells.size = 32) : ∃ xs, v = .agg xs ∧ v.cells = xs := by
  cases v <;> simp [Value.cells] at h ⊢
end Go.Proofs.YtpklkefnmoaaaaaGreatDoor
