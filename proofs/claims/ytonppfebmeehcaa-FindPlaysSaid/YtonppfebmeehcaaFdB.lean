/- A find in memory; New, Size, Unlike walked. -/
import Derived.Test.YtonppfebmeehcaaFdA
import Derived.Test.YtonppfebmeehcaaMapEnt
import Derived.Test.YtonppfebmeehcaaHsO
import Derived.Test.YtonppfebmeehcaaUO
namespace Go.Proofs.Ytonppfebmeehcaa
open Go.RowKit
set_option linter.unusedVariables false
set_option linter.unusedSimpArgs false

/-- At which indices a hash stands. -/
def idxOf (k : HK) (ls : List HK) : List Nat := (List.range ls.length).filter fun i => decide (ls[i]? = some k)
structure FS where
  lv : Value
  m : Nat
  ls : List HK
  mp : List (HK × Value)
structure FdIs (w : World) (b : Nat) (f : FS) : Prop where
  mem : w.heap[b]? = some (.cells #[f.lv, .map (some f.m)] 72 (0, 0))
  row : HOwn w 0 f.lv (f.ls.map (·.1))
  map : MapIs encH w f.m f.mp
  val : ∀ k v, (k, v) ∈ f.mp → UOwn w 0 v (idxOf k f.ls) ∧ k ∈ f.ls
  has : ∀ k ∈ f.ls, (mget f.mp k).isSome = true
  bm : b ≠ f.m
  bl : b ∉ ob f.lv
  ml : f.m ∉ ob f.lv
  vb : ∀ k v, (k, v) ∈ f.mp → b ∉ ob v ∧ f.m ∉ ob v ∧ ∀ x ∈ ob v, x ∉ ob f.lv
  vv : ∀ k v k' v', (k, v) ∈ f.mp → (k', v') ∈ f.mp → k ≠ k' → ∀ x ∈ ob v, x ∉ ob v'
theorem FdIs.chg0 {w w' : World} {b : Nat} {f : FS} (h : FdIs w b f) (hc : Chg [] w w') : FdIs w' b f :=
  ⟨hc.at h.mem (by simp), h.row.chg hc (by simp), h.map.chg hc (by simp), fun k v hk => ⟨own_chg (h.val k v hk).1 hc (by simp), (h.val k v hk).2⟩, h.has, h.bm, h.bl, h.ml, h.vb, h.vv⟩
theorem HOwn.shape {w : World} {B : Nat} {v : Value} {hs : List (Array Value)} (h : HOwn w B v hs) : ∃ a cap, v = .slice a hs.length cap := by
  obtain ⟨_, a, cap, rfl, _⟩ := h.hs
  exact ⟨a, cap, rfl⟩
theorem dSize_calls (w : World) (b : Nat) (f : FS) (h : FdIs w b f) (hl : f.ls.length ≤ 1000000) : Calls Try.prog 22 #[.pointer (some ⟨b, 0, none⟩)] w fun e w' => e = .returned (.int .u64 (f.ls.length : Nat)) ∧ w' = w := by
  obtain ⟨a, cap, hv⟩ := h.row.shape
  rw [List.length_map] at hv
  have c0 := blk_cell h.mem 0 rfl
  have hb := blk_lt h.mem
  rw [hv] at c0
  clear h
  go_enter Try.func22, Try.ntmps22
  go_wp2
  go_ret
  exact ⟨rfl, rfl⟩
theorem dUnlike_calls (w : World) (b : Nat) (f : FS) (h : FdIs w b f) : Calls Try.prog 21 #[.pointer (some ⟨b, 0, none⟩)] w fun e w' => e = .returned (.int .i64 (f.mp.length : Nat)) ∧ w' = w := by
  have c1 := blk_cell h.mem 1 rfl
  have hb := blk_lt h.mem
  have hlen := fun ty => h.map.len u_maph ty
  clear h
  go_enter Try.func21, Try.ntmps21
  go_wp2
  go_ret
  exact ⟨rfl, rfl⟩
theorem dNew_calls (w : World) : Calls Try.prog 9 #[] w fun e w' => ∃ b f, e = .returned (.pointer (some ⟨b, 0, none⟩)) ∧ FdIs w' b f ∧ f.ls = [] ∧ w.heap.size ≤ b ∧ Chg [] w w' := by
  have hmm := @run_makeMap Try.prog
  go_enter Try.func9, Try.ntmps9
  go_wp2
  go_ret
  have e1 := blk_new (w.alloc (.map #[] 0)) (.cells #[.slice none 0 0, .map (some w.heap.size)] 72)
  rw [World.size_alloc] at e1
  have hc : Chg [] (w.alloc (.map #[] 0)) ((w.alloc (.map #[] 0)).alloc (.cells #[.slice none 0 0, .map (some w.heap.size)] 72)) := (Chg.refl _ _).alloc _
  refine ⟨_, ⟨.slice none 0 0, w.heap.size, [], []⟩, rfl, ⟨e1, HOwn.nil _ _, (MapIs.new encH w).chg hc (by simp), by simp, by simp, by simp, by simp [ob_nil], by simp [ob_nil], by simp, by simp⟩, rfl, by simp, ((Chg.refl [] w).alloc _).nil_trans hc⟩
end Go.Proofs.Ytonppfebmeehcaa
