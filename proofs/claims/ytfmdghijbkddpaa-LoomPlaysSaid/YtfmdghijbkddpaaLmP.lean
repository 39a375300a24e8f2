/- The loom as plain data: its moves, what a move makes of it. Nothing of a program. -/
import Derived.WalkKit
namespace Go.Proofs.Ytfmdghijbkddpaa
set_option linter.unusedVariables false
set_option linter.unusedSimpArgs false

/-- A move: kind, worker, job. -/
structure Mv where
  kind : Int
  who : Int
  job : Int
  deriving DecidableEq

structure LS where
  jobs : Nat
  room : Nat
  next : Nat
  ch : List Nat
  shut : Bool
  ws : List (Nat × Nat)
  ans : List Nat
  out : Nat
  canc : Bool
  top : Nat
  made : Nat

/-- The moves of those workers of whom something is so, from the i-th on. -/
def eachOf (kind : Int) (is : Nat × Nat → Bool) (job : Nat × Nat → Int) : List (Nat × Nat) → Nat → List Mv
  | [], _ => []
  | x :: l, i => (if is x then [⟨kind, i, job x⟩] else []) ++ eachOf kind is job l (i + 1)

def isIdle (x : Nat × Nat) : Bool := decide (x.1 = 0) && decide (x.2 = 0)
def isBusy (x : Nat × Nat) : Bool := decide (x.1 = 1)
def notLeft (x : Nat × Nat) : Bool := decide (x.1 ≠ 2)

def LS.given (s : LS) : Int := if s.room = 0 ∧ s.shut = false ∧ s.next < s.jobs then s.next else match s.ch with | j :: _ => j | [] => -1

def LS.mPut (s : LS) : List Mv := if s.shut = false ∧ s.next < s.jobs ∧ s.ch.length < s.room then [⟨1, 0, s.next⟩] else []
def LS.mGive (s : LS) : List Mv := if 0 ≤ s.given then eachOf 2 isIdle (fun _ => s.given) s.ws 0 else []
def LS.mShut (s : LS) : List Mv := if s.shut = false ∧ s.next = s.jobs then [⟨3, 0, 0⟩] else []
def LS.mLeave (s : LS) : List Mv := if s.shut = true ∧ s.ch = [] then eachOf 4 isIdle (fun _ => 0) s.ws 0 else []
def LS.mAns (s : LS) : List Mv := if s.out = 0 then eachOf 5 isBusy (fun x => x.2) s.ws 0 else []
def LS.mQuit (s : LS) : List Mv := if s.canc = true then (if s.shut = false then [⟨6, -2, 0⟩] else []) ++ (if s.out = 0 then [⟨6, -1, 0⟩] else []) ++ eachOf 6 notLeft (fun _ => 0) s.ws 0 else []
def LS.moves (s : LS) : List Mv := s.mPut ++ s.mGive ++ s.mShut ++ s.mLeave ++ s.mAns ++ s.mQuit

theorem eachOf_append (kind : Int) (is : Nat × Nat → Bool) (job : Nat × Nat → Int) : ∀ (l m : List (Nat × Nat)) (i : Nat), eachOf kind is job (l ++ m) i = eachOf kind is job l i ++ eachOf kind is job m (i + l.length)
  | [], m, i => by simp [eachOf]
  | x :: l, m, i => by
    rw [List.cons_append, eachOf, eachOf, eachOf_append kind is job l m (i + 1), List.append_assoc, List.length_cons, show i + 1 + l.length = i + (l.length + 1) from by omega]
theorem eachOf_take (kind : Int) (is : Nat × Nat → Bool) (job : Nat × Nat → Int) (l : List (Nat × Nat)) (k : Nat) (hk : k < l.length) :
    eachOf kind is job (l.take (k + 1)) 0 = eachOf kind is job (l.take k) 0 ++ (if is l[k] then [⟨kind, k, job l[k]⟩] else []) := by
  rw [List.take_succ_eq_append_getElem hk, eachOf_append]
  simp [eachOf, Nat.min_eq_left (Nat.le_of_lt hk)]
theorem eachOf_length (kind : Int) (is : Nat × Nat → Bool) (job : Nat × Nat → Int) : ∀ (l : List (Nat × Nat)) (i : Nat), (eachOf kind is job l i).length ≤ l.length
  | [], i => by simp [eachOf]
  | x :: l, i => by
    have := eachOf_length kind is job l (i + 1)
    rw [eachOf]
    split <;> simp <;> omega
theorem moves_length (s : LS) : s.moves.length ≤ 4 * s.ws.length + 4 := by
  have h1 : s.mPut.length ≤ 1 := by unfold LS.mPut; split <;> simp
  have h2 : s.mGive.length ≤ s.ws.length := by unfold LS.mGive; split; exact eachOf_length _ _ _ _ _; simp
  have h3 : s.mShut.length ≤ 1 := by unfold LS.mShut; split <;> simp
  have h4 : s.mLeave.length ≤ s.ws.length := by unfold LS.mLeave; split; exact eachOf_length _ _ _ _ _; simp
  have h5 : s.mAns.length ≤ s.ws.length := by unfold LS.mAns; split; exact eachOf_length _ _ _ _ _; simp
  have h6 : s.mQuit.length ≤ s.ws.length + 2 := by
    unfold LS.mQuit
    split
    · have := eachOf_length 6 notLeft (fun _ => 0) s.ws 0
      simp only [List.length_append]
      split <;> split <;> simp <;> omega
    · simp
  unfold LS.moves
  simp only [List.length_append]
  omega

def LS.gauge (s : LS) : Nat := (s.ws.filter isBusy).length
def LS.left (s : LS) : Nat := (s.ws.filter fun x => decide (x.1 = 2)).length
def LS.gone (s : LS) : Nat := s.left + (if s.shut then 1 else 0) + (if s.out ≠ 0 then 1 else 0)
def LS.looked (s : LS) : LS := if s.out = 0 ∧ s.ans.length = s.jobs then { s with out := 1 } else s
def LS.setW (s : LS) (i : Nat) (x : Nat × Nat) : LS := { s with ws := s.ws.set i x }
def LS.quit (s : LS) (who : Int) : LS := if who = -2 then { s with shut := true } else if who = -1 then { s with out := 2 } else s.setW who.toNat (2, 0)
def LS.make (s0 : LS) (m : Mv) : LS :=
  let s := { s0 with made := s0.made + 1 }
  if m.kind = 1 then { s with ch := s.ch ++ [s.next], next := s.next + 1 }
  else if m.kind = 2 then
    let s := if s.room = 0 then { s with next := s.next + 1 } else { s with ch := s.ch.drop 1 }
    let s := s.setW m.who.toNat (1, m.job.toNat)
    { s with top := max s.top s.gauge }
  else if m.kind = 3 then { s with shut := true }
  else if m.kind = 4 then s.setW m.who.toNat (2, 0)
  else if m.kind = 5 then ({ s.setW m.who.toNat (0, 0) with ans := s.ans ++ [m.job.toNat] } : LS).looked
  else s.quit m.who
def LS.init0 (a j r : Nat) : LS := { jobs := j, room := r, next := 0, ch := [], shut := false, ws := List.replicate a (0, 0), ans := [], out := 0, canc := false, top := 0, made := 0 }
end Go.Proofs.Ytfmdghijbkddpaa
