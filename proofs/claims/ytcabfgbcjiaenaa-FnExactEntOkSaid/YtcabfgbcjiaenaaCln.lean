/- Plain functions that say what the program's functions come to; no Go, no memory. -/
import Derived.Test.YtcabfgbcjiaenaaWWords
namespace Go.Proofs.Ytcabfgbcjiaenaa.Cln
open Go.RowKit Go.Proofs.YtcabfgbcjiaenaaW.PrintWords

theorem w64 {n : Int} (h0 : -9223372036854775808 ≤ n) (h1 : n ≤ 9223372036854775807) : wrap64 n = n := by
  unfold wrap64
  omega
theorem w64_bt (s : ByteArray) (i : Int) : wrap64 (bt s i) = bt s i := by
  have := bt_range s i
  exact w64 (by omega) (by omega)

/-- One round more. -/
theorem Ev_up {α : Type} {g : Nat → Option α} {r : α} (h : Ev (fun k => g (k + 1)) r) : Ev g r := Ev.step (fun _ => rfl) h

/-- x is in the range a to b. -/
def inR (x a b : Int) : Bool := decide (a ≤ x) && decide (x ≤ b)
theorem inR_ite (x a b : Int) : (if x ≥ a then some (decide (x ≤ b)) else some false) = some (inR x a b) := by
  unfold inR
  by_cases h : a ≤ x <;> simp [h]

/-- A letter or a digit of a name. -/
def nameByte (c : Int) : Bool := inR c 97 122 || inR c 48 57
/-- All of d bytes from i on are bytes of a name. -/
def nameFrom (s : ByteArray) : Nat → Nat → Bool
  | 0, _ => true
  | d + 1, i => nameByte (bt s i) && nameFrom s d (i + 1)
def nameOk (s : ByteArray) : Bool := nameFrom s s.size 0 && inR s.size 1 6
def isW (n : Int) : Bool := inR n 0 65535

def opZero (kind a b : Int) : Bool :=
  if kind = 2 then decide (a = 0) && inR b 0 1 else if kind = 3 ∨ kind = 7 then decide (a = 0) && decide (b = 0) else if kind = 4 then true else decide (b = 0)
def noText (s : ByteArray) : Bool := s.toList == ([] : List UInt8)
def opOk (kind : Int) (name tt : ByteArray) (a b : Int) : Bool :=
  inR kind 1 9 && (if kind ≥ 7 then noText name else nameOk name) && (if kind = 2 then nameOk tt else noText tt) && isW a && isW b && opZero kind a b
def entOk (seq kind : Int) (name tt : ByteArray) (a b : Int) : Bool := inR seq 1 60000 && opOk kind name tt a b

/-- A loop over d bytes that leaves at the first that is no byte of a name. -/
theorem ev_names {g : Nat → Int → Option Bool} {s : ByteArray} {r : Bool}
    (hstep : ∀ (i : Nat), i < s.size → ∀ b : Bool, (if nameByte (bt s i) = true then Ev (fun k => g k (i + 1 : Nat)) b else b = false) → Ev (fun k => g k (i : Int)) b)
    (hend : Ev (fun k => g k (s.size : Int)) r) : ∀ (d i : Nat), i + d = s.size → Ev (fun k => g k (i : Int)) (nameFrom s d i && r) := by
  intro d
  induction d with
  | zero =>
    intro i hi
    have : i = s.size := by omega
    subst this
    simpa [nameFrom] using hend
  | succ d ih =>
    intro i hi
    apply hstep i (by omega)
    unfold nameFrom
    by_cases hb : nameByte (bt s i) = true
    · rw [if_pos hb]
      simpa [hb] using ih (i + 1) (by omega)
    · rw [if_neg hb]
      have hb' : nameByte (bt s i) = false := by simpa using hb
      simp [hb']
end Go.Proofs.Ytcabfgbcjiaenaa.Cln
