/- Plain functions that say what the program's functions come to; no Go, no memory. -/
import Derived.Test.YtcabfgbcjiaenaaWWords
import Derived.Laws.BitsLemmas
namespace Go.Proofs.Ytcabfgbcjiaenaa.Cln
open Go.RowKit Go.Proofs.YtcabfgbcjiaenaaW.PrintWords

theorem w64 {n : Int} (h0 : -9223372036854775808 ≤ n) (h1 : n ≤ 9223372036854775807) : wrap64 n = n := by
  unfold wrap64
  omega
theorem w64_bt (s : ByteArray) (i : Int) : wrap64 (bt s i) = bt s i := by
  have := bt_range s i
  exact w64 (by omega) (by omega)

/-- One round more. -/
theorem Ev_up {α : Type} {g : Nat → Option α} {r : α} (h : Ev (fun k => g (k + 1)) r) : Ev g r := Ev.step (fun _ => rfl) h

/-- x is in the range a to b. -/
def inR (x a b : Int) : Bool := decide (a ≤ x) && decide (x ≤ b)
theorem inR_ite (x a b : Int) : (if x ≥ a then some (decide (x ≤ b)) else some false) = some (inR x a b) := by
  unfold inR
  by_cases h : a ≤ x <;> simp [h]

/-- A letter or a digit of a name. -/
def nameByte (c : Int) : Bool := inR c 97 122 || inR c 48 57
/-- All of d bytes from i on are bytes of a name. -/
def nameFrom (s : ByteArray) : Nat → Nat → Bool
  | 0, _ => true
  | d + 1, i => nameByte (bt s i) && nameFrom s d (i + 1)
def nameOk (s : ByteArray) : Bool := nameFrom s s.size 0 && inR s.size 1 6
def isW (n : Int) : Bool := inR n 0 65535

def opZero (kind a b : Int) : Bool :=
  if kind = 2 then decide (a = 0) && inR b 0 1 else if kind = 3 ∨ kind = 7 then decide (a = 0) && decide (b = 0) else if kind = 4 then true else decide (b = 0)
def noText (s : ByteArray) : Bool := s.toList == ([] : List UInt8)
def opOk (kind : Int) (name tt : ByteArray) (a b : Int) : Bool :=
  inR kind 1 9 && (if kind ≥ 7 then noText name else nameOk name) && (if kind = 2 then nameOk tt else noText tt) && isW a && isW b && opZero kind a b
def entOk (seq kind : Int) (name tt : ByteArray) (a b : Int) : Bool := inR seq 1 60000 && opOk kind name tt a b

/-- A loop over d bytes that leaves at the first that is no byte of a name. -/
theorem ev_names {g : Nat → Int → Option Bool} {s : ByteArray} {r : Bool}
    (hstep : ∀ (i : Nat), i < s.size → ∀ b : Bool, (if nameByte (bt s i) = true then Ev (fun k => g k (i + 1 : Nat)) b else b = false) → Ev (fun k => g k (i : Int)) b)
    (hend : Ev (fun k => g k (s.size : Int)) r) : ∀ (d i : Nat), i + d = s.size → Ev (fun k => g k (i : Int)) (nameFrom s d i && r) := by
  intro d
  induction d with
  | zero =>
    intro i hi
    have : i = s.size := by omega
    subst this
    simpa [nameFrom] using hend
  | succ d ih =>
    intro i hi
    apply hstep i (by omega)
    unfold nameFrom
    by_cases hb : nameByte (bt s i) = true
    · rw [if_pos hb]
      simpa [hb] using ih (i + 1) (by omega)
    · rw [if_neg hb]
      have hb' : nameByte (bt s i) = false := by simpa using hb
      simp [hb']

/-! ### Bits, words and the checksum -/
theorem rd_get (l : List Int) (i : Nat) (h : i < l.length) : rd l (i : Int) = l[i] := by
  unfold rd
  simp [List.getD, h]
theorem wrap_small (n : Nat) (h : n < 9223372036854775808) : IntKind.i64.wrap (n : Int) = n := by
  rw [IntKind.wrap_i64]
  omega
theorem ofInt_toNat (x : Int) : ((BitVec.ofInt 64 x).toNat : Int) = x % 18446744073709551616 := by
  rw [BitVec.toNat_ofInt]
  omega
theorem and_mask (x : Int) (m : Nat) (j : Nat) (hj : j < 63) (hm : m = 2 ^ j - 1) : bits .and .i64 x m = x % (2 ^ j : Nat) := by
  have hd : (2 ^ j : Nat) ∣ 18446744073709551616 := by
    have : (18446744073709551616 : Nat) = 2 ^ j * 2 ^ (64 - j) := by rw [← Nat.pow_add, show j + (64 - j) = 64 by omega]
    rw [this]
    exact Nat.dvd_mul_right _ _
  have hlt : m < 18446744073709551616 := by
    have : 2 ^ j ≤ 2 ^ 64 := Nat.pow_le_pow_right (by omega) (by omega)
    have h1 : 0 < 2 ^ j := Nat.two_pow_pos j
    omega
  have hj63 : 2 ^ j < 9223372036854775808 := by
    have : 2 ^ j ≤ 2 ^ 62 := Nat.pow_le_pow_right (by omega) (by omega)
    omega
  show IntKind.i64.wrap ((BitVec.ofInt 64 x &&& BitVec.ofInt 64 (m : Int)).toNat : Int) = _
  rw [BitVec.toNat_and, BitVec.ofInt_natCast, BitVec.toNat_ofNat, Nat.mod_eq_of_lt hlt, hm, Nat.and_two_pow_sub_one_eq_mod]
  have h2 := Nat.mod_lt (BitVec.ofInt 64 x).toNat (Nat.two_pow_pos j)
  rw [wrap_small _ (by omega), Int.natCast_emod, ofInt_toNat]
  exact Int.emod_emod_of_dvd _ (Int.ofNat_dvd.2 hd)
theorem and255 (x : Int) : bits .and .i64 x 255 = x % 256 := and_mask x 255 8 (by omega) (by decide)
theorem and1 (x : Int) : bits .and .i64 x 1 = x % 2 := and_mask x 1 1 (by omega) (by decide)
theorem xor_nat (a b : Nat) (ha : a < 9223372036854775808) (hb : b < 9223372036854775808) : bits .xor .i64 (a : Int) (b : Int) = ((a ^^^ b : Nat) : Int) := by
  show IntKind.i64.wrap ((BitVec.ofInt 64 (a : Int) ^^^ BitVec.ofInt 64 (b : Int)).toNat : Int) = _
  rw [BitVec.toNat_xor, BitVec.ofInt_natCast, BitVec.ofInt_natCast, BitVec.toNat_ofNat, BitVec.toNat_ofNat, Nat.mod_eq_of_lt (by omega), Nat.mod_eq_of_lt (by omega)]
  exact wrap_small _ (Nat.xor_lt_two_pow (n := 63) ha hb)
theorem xor_range (x y : Int) (hx0 : 0 ≤ x) (hx1 : x < 4294967296) (hy0 : 0 ≤ y) (hy1 : y < 4294967296) : 0 ≤ bits .xor .i64 x y ∧ bits .xor .i64 x y < 4294967296 := by
  obtain ⟨a, rfl⟩ := Int.eq_ofNat_of_zero_le hx0
  obtain ⟨b, rfl⟩ := Int.eq_ofNat_of_zero_le hy0
  rw [xor_nat a b (by omega) (by omega)]
  have := Nat.xor_lt_two_pow (n := 32) (x := a) (y := b) (by omega) (by omega)
  omega

def isBytes (l : List Int) : Prop := ∀ x ∈ l, 0 ≤ x ∧ x < 256
theorem isBytes_append {a b : List Int} (ha : isBytes a) (hb : isBytes b) : isBytes (a ++ b) := fun x hx => (List.mem_append.1 hx).elim (ha x) (hb x)
theorem isBytes_nil : isBytes [] := fun x hx => by cases hx
def putW (l : List Int) (n : Int) : List Int := l ++ [n / 256 % 256, n % 256]
def put4 (l : List Int) (n : Int) : List Int := putW (putW l (n / 65536)) n
theorem putW_length (l : List Int) (n : Int) : (putW l n).length = l.length + 2 := by simp [putW]
theorem put4_length (l : List Int) (n : Int) : (put4 l n).length = l.length + 4 := by simp [put4, putW_length]
theorem put4_bytes (l : List Int) (n : Int) : l ++ [n / 16777216 % 256, n / 65536 % 256, n / 256 % 256, n % 256] = put4 l n := by
  have : n / 65536 / 256 = n / 16777216 := by omega
  simp [put4, putW, this]
theorem isBytes_putW {l : List Int} (h : isBytes l) (n : Int) : isBytes (putW l n) := isBytes_append h (fun x hx => by
  simp at hx
  rcases hx with rfl | rfl <;> omega)
theorem isBytes_put4 {l : List Int} (h : isBytes l) (n : Int) : isBytes (put4 l n) := isBytes_putW (isBytes_putW h _) _

def crcBit (x : Int) : Int := if x % 2 = 1 then bits .xor .i64 (x / 2) 2197175160 else x / 2
def crcBits : Nat → Int → Int
  | 0, x => x
  | n + 1, x => crcBits n (crcBit x)
def crcStep (x b : Int) : Int := crcBits 8 (bits .xor .i64 x b)
def crc (l : List Int) : Int := bits .xor .i64 (l.foldl crcStep 4294967295) 4294967295
theorem crcBit_range (x : Int) (h0 : 0 ≤ x) (h1 : x < 4294967296) : 0 ≤ crcBit x ∧ crcBit x < 4294967296 := by
  unfold crcBit
  split
  · exact xor_range _ _ (by omega) (by omega) (by omega) (by omega)
  · omega
theorem crcBits_range : ∀ (n : Nat) (x : Int), 0 ≤ x → x < 4294967296 → 0 ≤ crcBits n x ∧ crcBits n x < 4294967296
  | 0, _, h0, h1 => ⟨h0, h1⟩
  | n + 1, x, h0, h1 => crcBits_range n _ (crcBit_range x h0 h1).1 (crcBit_range x h0 h1).2

/-- The numbers that a mark writes: from n on, each modulo q. -/
def marks (q : Int) : Nat → Int → List Int
  | 0, _ => []
  | d + 1, n => n % q :: marks q d (n + 1)
theorem marks_length (q : Int) : ∀ (d : Nat) (n : Int), (marks q d n).length = d
  | 0, _ => rfl
  | d + 1, n => by simp [marks, marks_length q d]

/-! ### Superblocks -/
def superOk (gen side len sum seq : Int) : Bool := inR gen 1 60000 && inR side 0 1 && inR len 0 1680 && inR sum 0 4294967295 && inR seq 1 60000
def superBody (gen side len sum seq : Int) : List Int := putW (put4 (putW (putW [] gen ++ [side % 256]) len) sum) seq
def putSuper (gen side len sum seq : Int) : List Int := if superOk gen side len sum seq = true then put4 (superBody gen side len sum seq) (crc (superBody gen side len sum seq)) else []
theorem superBody_bytes (gen side len sum seq : Int) : isBytes (superBody gen side len sum seq) :=
  isBytes_putW (isBytes_put4 (isBytes_putW (isBytes_append (isBytes_putW isBytes_nil _) (fun x hx => by
    simp at hx
    omega)) _) _) _
theorem superBody_length (gen side len sum seq : Int) : (superBody gen side len sum seq).length = 11 := by simp [superBody, putW_length, put4_length]
end Go.Proofs.Ytcabfgbcjiaenaa.Cln
