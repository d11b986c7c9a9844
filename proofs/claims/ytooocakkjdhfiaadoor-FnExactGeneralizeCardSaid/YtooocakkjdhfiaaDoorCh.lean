/- Letters, digits, and the names of variables and symbols: plain. -/
import Derived.Test.YtooocakkjdhfiaaDoorD
namespace Go.Proofs.YtooocakkjdhfiaaDoor
set_option maxRecDepth 100000
open Go.RowKit

/-- byte i of a string; 0 behind its end -/
def byteAt (s : ByteArray) (i : Nat) : Nat := if h : i < s.size then s[i].toNat else 0
theorem byteAt_eq {s : ByteArray} {i : Nat} (h : i < s.size) : s[i].toNat = byteAt s i := by unfold byteAt; rw [dif_pos h]
theorem byteAt_lt (s : ByteArray) (i : Nat) : byteAt s i < 256 := by
  unfold byteAt
  split
  · exact UInt8.toNat_lt _
  · decide

def lowB (n : Nat) : Bool := decide (97 ≤ n) && decide (n ≤ 122)
def digB (n : Nat) : Bool := decide (48 ≤ n) && decide (n ≤ 57)
def upB (n : Nat) : Bool := decide (65 ≤ n) && decide (n ≤ 90)
theorem lowB_iff (n : Nat) : lowB n = true ↔ 97 ≤ n ∧ n ≤ 122 := by simp [lowB]
theorem digB_iff (n : Nat) : digB n = true ↔ 48 ≤ n ∧ n ≤ 57 := by simp [digB]
theorem upB_iff (n : Nat) : upB n = true ↔ 65 ≤ n ∧ n ≤ 90 := by simp [upB]

/-- may byte b stand at place i of a variable's name, of a symbol's name? -/
def varCh (i b : Nat) : Bool := if i = 0 then upB b else lowB b || digB b
def symCh (i b : Nat) : Bool := if i = 0 then lowB b else lowB b || digB b || b == 95
/-- the first k bytes pass -/
def allCh (p : Nat → Nat → Bool) (s : ByteArray) (k : Nat) : Bool := (List.range k).all fun i => p i (byteAt s i)
theorem allCh_zero (p : Nat → Nat → Bool) (s : ByteArray) : allCh p s 0 = true := by simp [allCh]
theorem allCh_succ (p : Nat → Nat → Bool) (s : ByteArray) (k : Nat) : allCh p s (k + 1) = (allCh p s k && p k (byteAt s k)) := by
  simp [allCh, List.range_succ]
theorem allCh_no {p : Nat → Nat → Bool} {s : ByteArray} {i k : Nat} (h : i < k) (hp : p i (byteAt s i) = false) : allCh p s k = false := by
  rw [Bool.eq_false_iff]
  intro e
  unfold allCh at e
  rw [List.all_eq_true] at e
  have := e i (List.mem_range.2 h)
  rw [hp] at this
  exact absurd this (by simp)

/-- does the list hold the string? -/
def hasStr (l : List ByteArray) (s : ByteArray) : Bool := l.any fun r => decide (s = r)
theorem hasStr_iff (l : List ByteArray) (s : ByteArray) : hasStr l s = true ↔ s ∈ l := by simp [hasStr]

def reservedL : List ByteArray := [⟨#[116, 114, 117, 101]⟩, ⟨#[102, 97, 108, 115, 101]⟩, ⟨#[116, 114, 117, 116, 104]⟩, ⟨#[98, 111, 116, 104]⟩, ⟨#[101, 105, 116, 104, 101, 114]⟩, ⟨#[105, 102]⟩, ⟨#[97, 108, 108]⟩, ⟨#[115, 111, 109, 101]⟩]
def varName (s : ByteArray) : Bool := allCh varCh s s.size && decide (1 ≤ s.size) && decide (s.size ≤ 4)
def symName (s : ByteArray) : Bool := allCh symCh s s.size && decide (1 ≤ s.size) && decide (s.size ≤ 6) && !hasStr reservedL s
end Go.Proofs.YtooocakkjdhfiaaDoor
