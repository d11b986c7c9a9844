/- Several texts in one file. -/
import Derived.Test.YtooocakkjdhfiaaGreatDoorQ02
import Derived.Lib.Join
import Derived.Laws.Concat
import Derived.Test.YtooocakkjdhfiaaGreatDoorRows
import Derived.WalkSpells
import Derived.WalkLawsBesides
import Derived.Laws.BytesString
import Derived.Laws.IdiomStrings
import Derived.Test.YtooocakkjdhfiaaGreatDoorQ01
import Derived.OpenShut
/- The texts of expressions. Plain. -/
namespace Go.Proofs.YtooocakkjdhfiaaGreatDoor
set_option maxRecDepth 100000
open Go.RowKit

/-- bytes as a string -/
def bs (l : List UInt8) : ByteArray := ⟨l.toArray⟩
theorem bs_append (a b : List UInt8) : bs a ++ bs b = bs (a ++ b) := ByteArray.mk_append_mk a b
theorem bs_of (s : ByteArray) : bs s.data.toList = s := by cases s; simp [bs]
theorem bs_size (l : List UInt8) : (bs l).size = l.length := by simp [bs, ByteArray.size]
theorem bs_left (s : ByteArray) (l : List UInt8) : s ++ bs l = bs (s.data.toList ++ l) := by rw [← bs_append, bs_of]
theorem bs_mk (a : Array UInt8) : (⟨a⟩ : ByteArray) = bs a.toList := by simp [bs]
theorem bs_list (l : List UInt8) : (bs l).data.toList = l := by simp [bs]

theorem join_snoc (xs : List (List UInt8)) (y sep : List UInt8) : Lib.join (xs ++ [y]) sep = if xs = [] then y else Lib.join xs sep ++ sep ++ y := by
  cases xs with
  | nil => simp [Lib.join_one]
  | cons x r => rw [if_neg (by simp), List.cons_append, Lib.join_cons, Lib.join_cons]; simp [Lib.joinTail, List.append_assoc]
theorem join_length (xs : List (List UInt8)) (sep : List UInt8) : (Lib.join xs sep).length ≤ Lib.lens xs + xs.length * sep.length := by
  cases xs with
  | nil => simp [Lib.join_nil]
  | cons x r =>
    rw [Lib.join_cons]
    have : (Lib.joinTail sep r).length = Lib.lens r + r.length * sep.length := by
      induction r with
      | nil => simp [Lib.joinTail, Lib.lens]
      | cons y r ih => simp only [Lib.joinTail, List.map_cons, List.flatten_cons, List.length_append, Lib.lens, List.sum_cons, List.length_cons] at ih ⊢; rw [ih, Nat.add_mul]; omega
    simp only [List.length_append, this, Lib.lens, List.map_cons, List.sum_cons, List.length_cons, Nat.add_mul]; omega

/-- a node's text out of its arguments' -/
def textOf (n : ByteArray) (xs : List (List UInt8)) : List UInt8 :=
  if n = eqSign then xs.getD 0 [] ++ [32, 61, 32] ++ xs.getD 1 [] else if xs = [] then n.data.toList else n.data.toList ++ [40] ++ Lib.join xs [44] ++ [41]
mutual
def Tm.text : Tm → List UInt8
  | .node n ts => textOf n (Tm.texts ts)
def Tm.texts : List Tm → List (List UInt8)
  | [] => []
  | t :: ts => Tm.text t :: Tm.texts ts
end
theorem Tm.texts_map (ts : List Tm) : Tm.texts ts = ts.map Tm.text := by
  induction ts with
  | nil => rfl
  | cons t ts ih => rw [Tm.texts, ih]; rfl
theorem Tm.texts_length (ts : List Tm) : (Tm.texts ts).length = ts.length := by rw [Tm.texts_map, List.length_map]
theorem Tm.texts_take_succ (ts : List Tm) (k : Nat) (hk : k < ts.length) : Tm.texts (ts.take (k + 1)) = Tm.texts (ts.take k) ++ [ts[k].text] := by
  rw [Tm.texts_map, Tm.texts_map, List.take_succ_eq_append_getElem hk, List.map_append]; rfl

theorem Tm.text_lens (t : Tm) : t.text.length ≤ t.bulk + 3 * t.size := by
  refine Tm.ind (P := fun t => t.text.length ≤ t.bulk + 3 * t.size) (fun n ts ih => ?_) t
  have key : ∀ ts : List Tm, (∀ a ∈ ts, a.text.length ≤ a.bulk + 3 * a.size) → Lib.lens (Tm.texts ts) ≤ Tm.bulks ts + 3 * Tm.sizes ts := by
    intro ts
    induction ts with
    | nil => intro _; simp [Tm.texts, Lib.lens]
    | cons t ts iht =>
      intro h
      have h0 := h t (by simp)
      have h1 := iht fun a ha => h a (by simp [ha])
      simp only [Lib.lens, Tm.texts, List.map_cons, List.sum_cons, Tm.bulks, Tm.sizes] at h1 ⊢; omega
  have hk := key ts ih
  have hl := Tm.texts_length ts
  rw [Tm.text, Tm.bulk, Tm.size, textOf]
  have hj := join_length (Tm.texts ts) [44]
  have hg : ∀ xs : List (List UInt8), (xs.getD 0 []).length + (xs.getD 1 []).length ≤ Lib.lens xs := by
    intro xs
    match xs with
    | [] => simp
    | [x] => simp [Lib.lens]
    | x :: y :: r => simp [Lib.lens]
  have hg' := hg (Tm.texts ts)
  have hns : n.data.toList.length = n.size := rfl
  split
  · simp only [List.length_append, List.length_cons, List.length_nil]; omega
  · split
    · omega
    · simp only [List.length_append, List.length_cons, List.length_nil] at hj ⊢; omega
/-- the text of an expression is short -/
theorem Tm.text_le (t : Tm) (h : t.bulk ≤ 1048576) : t.text.length ≤ 4194307 := by
  have := Tm.text_lens t; have := Tm.size_bulk t; omega

/-- behind k arguments -/
def opened (xs : List (List UInt8)) : List UInt8 := if xs = [] then [] else [40] ++ Lib.join xs [44]
theorem opened_nil : opened [] = [] := rfl
theorem opened_snoc (xs : List (List UInt8)) (y : List UInt8) : opened (xs ++ [y]) = opened xs ++ (if xs = [] then [40] else [44]) ++ y := by
  rw [opened, if_neg (by simp), join_snoc, opened]
  split
  · simp
  · simp [List.append_assoc]
theorem textOf_eq {n : ByteArray} (h : n = eqSign) {xs : List (List UInt8)} {a b : List UInt8} (hx : xs = [a, b]) : textOf n xs = a ++ [32, 61, 32] ++ b := by
  subst hx; rw [textOf, if_pos h]; rfl
theorem textOf_none {n : ByteArray} (h : n ≠ eqSign) : textOf n [] = n.data.toList := by rw [textOf, if_neg h, if_pos rfl]
theorem textOf_some {n : ByteArray} (h : n ≠ eqSign) {xs : List (List UInt8)} (hx : xs ≠ []) : textOf n xs = n.data.toList ++ opened xs ++ [41] := by
  rw [textOf, if_neg h, if_neg hx, opened, if_neg hx]; simp [List.append_assoc]
theorem textOf_join {n : ByteArray} (h : n ≠ eqSign) {xs : List (List UInt8)} (hx : xs ≠ []) : textOf n xs = n.data.toList ++ [40] ++ Lib.join xs [44] ++ [41] := by
  rw [textOf, if_neg h, if_neg hx]

mutual
/-- an equality has two sides -/
def Tm.sides : Tm → Prop
  | .node n ts => (n = eqSign → ts.length = 2) ∧ Tm.sidesAll ts
def Tm.sidesAll : List Tm → Prop
  | [] => True
  | t :: ts => Tm.sides t ∧ Tm.sidesAll ts
end
theorem Tm.sidesAll_iff (ts : List Tm) : Tm.sidesAll ts ↔ ∀ t ∈ ts, Tm.sides t := by
  induction ts with
  | nil => simp [Tm.sidesAll]
  | cons t ts ih => simp [Tm.sidesAll, ih]
theorem varName_eq : varName eqSign = false := by decide
theorem symName_eq : symName eqSign = false := by decide
theorem Tm.names_sides (t : Tm) : t.names = true → t.sides := by
  refine Tm.ind (P := fun t => t.names = true → t.sides) (fun n ts ih h => ?_) t
  rw [Tm.names] at h
  rw [Tm.sides, Tm.sidesAll_iff]
  by_cases hv : varName n = true
  · rw [if_pos hv] at h
    have : ts = [] := by simpa using h
    subst this
    exact ⟨fun e => by rw [e, varName_eq] at hv; exact absurd hv (by simp), by simp⟩
  · rw [if_neg hv] at h
    simp only [Bool.and_eq_true] at h
    refine ⟨fun e => ?_, fun t ht => ih t ht ((Tm.namesAll_iff ts).1 h.2 t ht)⟩
    rw [e, symName_eq] at h
    exact absurd h.1.1 (by simp)
end Go.Proofs.YtooocakkjdhfiaaGreatDoor
/- The text of a mark. -/
namespace Go.Proofs.YtooocakkjdhfiaaGreatDoor
set_option maxRecDepth 100000
open Go.RowKit

def digs (k : Nat) : List UInt8 := if _h : k = 0 then [] else digs (k / 10) ++ [UInt8.ofNat (48 + k % 10)]
termination_by k
decreasing_by omega
theorem digs_zero : digs 0 = [] := by rw [digs]; rfl
theorem digs_step {k : Nat} (h : 0 < k) : digs k = digs (k / 10) ++ [UInt8.ofNat (48 + k % 10)] := by rw [digs, dif_neg (by omega)]
theorem digs_length (k : Nat) : (digs k).length ≤ k := by
  induction k using Nat.strongRecOn with
  | ind k ih =>
    by_cases h : 0 < k
    · rw [digs_step h, List.length_append]
      have := ih (k / 10) (by omega)
      simp only [List.length_cons, List.length_nil]; omega
    · obtain rfl : k = 0 := by omega
      rw [digs_zero]; simp
theorem ret_txt {a b : ByteArray} (h : a = b) : Ending.returned (.string a) = .returned (.string b) := by rw [h]
/-- the text of mark k -/
def mtext (k : Nat) : List UInt8 := if k = 0 then [109, 48] else [109] ++ digs k
theorem mtext_length (k : Nat) : (mtext k).length ≤ k + 2 := by
  have := digs_length k
  unfold mtext
  split
  · simp
  · simp only [List.length_append, List.length_cons, List.length_nil]; omega

set_option maxHeartbeats 1000000 in
theorem markText_any (k : Nat) (hk : k ≤ 1099511627776) (w : World) : Calls Tryz.prog 39 #[.int .i64 k] w (Gives w (.string (bs (mtext k)))) := by
  by_cases h0 : k = 0
  · have HM : Hid (mtext k = [109, 48]) := by rw [Hid, mtext, if_pos h0]
    have hz : (k : Int) ≤ 0 := by omega
    clear h0
    go_enter Tryz.func39, Tryz.ntmps39
    go_wp2_with fail
    go_ret
    exact Gives.mk (ret_txt (by rw [HM.out]; rfl)) (Below.refl _ _)
  · have HM : Hid (mtext k = [109] ++ digs k) := by rw [Hid, mtext, if_neg h0]
    have hz : ¬ (k : Int) ≤ 0 := by omega
    clear h0
    have hdk := digs_length k
    go_enter Tryz.func39, Tryz.ntmps39
    go_wp2_with fail
    go_loopw [0, 3] (fun n o wr => ∃ (j : Nat) (l : List UInt8), n = .int .i64 j ∧ o = .string (bs l) ∧ l.length + j ≤ k ∧ Hid (digs k = digs j ++ l) ∧ Below w.heap.size w wr) (fun n _ _ => (intOf n).toNat)
    case atStart => exact ⟨k, [], rfl, rfl, by simp, by simp [Hid], Below.refl _ _⟩
    case round =>
      obtain ⟨j, l, rfl, rfl, hl, HX, hb⟩ := hrel
      by_cases hj : 0 < j
      · have hj' : (0 : Int) < j := by omega
        have HS := hid (digs_step hj)
        have hls := bs_size l
        obtain ⟨x, Hx⟩ : ∃ x, Hid (UInt8.ofNat (48 + j % 10) = x) := ⟨_, hid rfl⟩
        have hx : (x.toNat : Int) = 48 + (j : Int) % 10 := by rw [← Hx.out, UInt8.toNat_ofNat']; omega
        have hcv : (convert 75 9 (.slice (some ⟨wr.heap.size, 0, none⟩) 1 1)).run Tryz.prog (wr.alloc (.cells #[.int .u8 (48 + (j : Int) % 10)] 5)) = .ok (.string (bs [x])) (wr.alloc (.cells #[.int .u8 (48 + (j : Int) % 10)] 5)) :=
          run_convert_bytes_back (P := Tryz.prog) _ 75 9 5 ⟨wr.heap.size, 0, none⟩ 1 [x] Tryz.underlying75 Tryz.underlying5 Tryz.underlying9 (fun i hi => by
            obtain rfl : i = 0 := by simpa using hi
            rw [← hx]
            exact box1 _ _ _ 0)
        have hcs : (bs [x]).size = 1 := bs_size [x]
        have hov : ¬ 9223372036854775807 < (bs [x]).size + (bs l).size := by omega
        have hov2 : ¬ 9223372036854775807 < 1 + l.length := by omega
        have HS2 : Hid (digs k = digs (j / 10) ++ ([x] ++ l)) := by rw [Hid, HX.out, HS.out, Hx.out, List.append_assoc]
        have hdl : ([x] ++ l).length + j / 10 ≤ k := by simp only [List.length_append, List.length_cons, List.length_nil]; omega
        clear hx
        go_wp2_with fail
        go_roundw
        case rel => exact ⟨j / 10, [x] ++ l, by go_num, by rw [bs_append], hdl, HS2, hb.trans (((Below.refl _ _).alloc (Nat.le_refl _) _).mono hb.size)⟩
        case measure => simp [intOf]; omega
      · obtain rfl : j = 0 := by omega
        have hls := bs_size l
        have hov : ¬ 9223372036854775807 < (⟨#[109]⟩ : ByteArray).size + (bs l).size := by rw [show (⟨#[109]⟩ : ByteArray).size = 1 from rfl]; omega
        have HY : Hid (mtext k = [109] ++ l) := by rw [Hid, HM.out, HX.out, digs_zero]; rfl
        go_wp2_with fail
        go_ret
        exact Gives.mk (ret_txt (by rw [HY.out, ← bs_append]; rfl)) hb
end Go.Proofs.YtooocakkjdhfiaaGreatDoor
/- Lists of strings as data. -/
namespace Go.Proofs.YtooocakkjdhfiaaGreatDoor
set_option maxRecDepth 100000
open Go.RowKit

/-- a string's cell -/
def strE (s : ByteArray) : List D := [.str s]
theorem strE_wide : Wide strE 1 := fun _ => rfl
theorem strs_get {S : Nat → Prop} {w : World} {a : Option Addr} {n cap : Nat} {ss : List ByteArray} (h : D.rd S w (.slice a n cap) (slOf strE ss)) (hne : ss ≠ []) : ∃ b off, a = some ⟨b, off, none⟩ ∧ S b ∧ b < w.heap.size ∧
    ∀ k (hk : k < ss.length), w.cell? ⟨b, off + k, none⟩ = some (.string ss[k]) ∧ ss[k].size ≤ maxLen := by
  obtain ⟨b, off, h0, h1, h2, h3⟩ := slOf_get strE_wide (by decide) h hne
  refine ⟨b, off, h0, h1, h2, fun k hk => ?_⟩
  obtain ⟨v, q0, q1⟩ := h3 k hk 0 (.str ss[k]) rfl
  rw [D.rd] at q1
  obtain ⟨rfl, q2⟩ := q1
  rw [Nat.mul_one, Nat.add_zero] at q0
  exact ⟨q0, q2⟩
theorem slOf_strs {S : Nat → Prop} {w : World} {b : Nat} {ss : List ByteArray} (hS : S b) (hb : b < w.heap.size) (hl : ss.length ≤ big) (h : ∀ i (hi : i < ss.length), w.cell? ⟨b, i, none⟩ = some (.string ss[i]) ∧ ss[i].size ≤ maxLen) {cap : Nat} (hc : ss.length ≤ cap) :
    D.rd S w (.slice (some ⟨b, 0, none⟩) ss.length cap) (slOf strE ss) := by
  rw [slOf, D.rd]
  refine ⟨_, _, rfl, hl, hc, fun hn => flat_ne strE_wide (by decide) (by intro e; subst e; simp at hn), fun hne => ⟨b, 0, rfl, hS, hb, (D.rds_iff _ _).2 fun i hi => ?_⟩⟩
  have hil : i < ss.length := by rw [flat_length strE_wide] at hi; omega
  obtain ⟨q0, q1⟩ := h i hil
  have hg := flat_get strE_wide ss i 0 hil (by decide)
  rw [Nat.mul_one, Nat.add_zero, List.getElem?_eq_getElem hi] at hg
  have : (ss.flatMap strE)[i] = .str ss[i] := by simpa [strE] using hg
  rw [this, Nat.zero_add]
  exact ⟨_, q0, D.rd_str q1⟩
end Go.Proofs.YtooocakkjdhfiaaGreatDoor
/- Lists of strings: how a law measures, copies and compares them. -/
namespace Go.Proofs.YtooocakkjdhfiaaGreatDoor
set_option maxRecDepth 100000
open Go.RowKit Go.ChangeShapes Go.WideShapes

def strSum : List ByteArray → Nat
  | [] => 0
  | s :: ss => s.size + strSum ss
def strBulk (ss : List ByteArray) : Nat := ss.length + strSum ss
theorem strSum_take : ∀ (ss : List ByteArray) (k : Nat) (hk : k < ss.length), strSum (ss.take (k + 1)) = strSum (ss.take k) + ss[k].size
  | [], k, hk => absurd hk (by simp)
  | t :: ts, 0, _ => by simp [strSum]
  | t :: ts, k + 1, hk => by
    have := strSum_take ts k (by simpa using hk)
    simp only [List.take_succ_cons, strSum, this, List.getElem_cons_succ]; omega
theorem strSum_le : ∀ (ss : List ByteArray) (k : Nat), strSum (ss.take k) ≤ strSum ss
  | [], k => by simp
  | t :: ts, 0 => by simp [strSum]
  | t :: ts, k + 1 => by
    have := strSum_le ts k
    simp only [List.take_succ_cons, strSum]; omega
theorem strSum_mem {ss : List ByteArray} {s : ByteArray} (h : s ∈ ss) : s.size ≤ strSum ss := by
  induction ss with
  | nil => cases h
  | cons a ss ih =>
    rw [strSum]
    rcases List.mem_cons.1 h with rfl | h
    · omega
    · have := ih h; omega

def MadeStr (ss : List ByteArray) (w : World) (e : Ending) (w' : World) : Prop := ∃ v F, e = .returned v ∧ D.own w' v (slOf strE ss) F ∧ (∀ x ∈ F, w.heap.size ≤ x) ∧ Below w.heap.size w w'
theorem infoStrS : (Tryz.prog.info? 9).map (fun i => (i.zero, i.size, i.bytes)) = some (some (.string ByteArray.empty), 1, 16) := by kernel_rfl
theorem strE_take (ss : List ByteArray) (k : Nat) (hk : k < ss.length) : (ss.take (k + 1)).flatMap strE = (ss.take k).flatMap strE ++ [.str ss[k]] := flat_take_succ ss k hk

/-- the value reads as the list -/
def IsSS (ss : List ByteArray) (v : Value) (w : World) : Prop := D.rd (fun _ => True) w v (slOf strE ss)
theorem IsSS.form {ss : List ByteArray} {v : Value} {w : World} (h : IsSS ss v w) : ∃ a cap, v = .slice a ss.length cap ∧ D.rd (fun _ => True) w (.slice a ss.length cap) (slOf strE ss) := by
  obtain ⟨a, cap, rfl, _, _⟩ := slOf_form h
  exact ⟨a, cap, rfl, h⟩
theorem IsSS.stable {ss : List ByteArray} {w : World} : ∀ v w1 w2, Below w.heap.size w w1 → Below w1.heap.size w1 w2 → IsSS ss v w1 → IsSS ss v w2 :=
  fun _ _ _ _ hb h => D.rd_keep (Keeps.all hb) _ _ h
theorem toList_yes {a b : ByteArray} (h : a = b) : (a.toList == b.toList) = true := by rw [h]; simp

theorem cellsStr1 : Tryz.prog.cellsOf 9 = 1 := by kernel_rfl
section
variable {H : Type} {enc' : TypeId × Value → H} {w : World}
theorem read_str : ∀ (fuel : Nat) (cs : List Value) (x : DataW H × List MemPlace), DataW.trod enc' Tryz.prog w 0 (fun _ => true) true fuel 9 cs = some x → ∃ s : ByteArray, CellsRd (fun _ => True) w cs (strE s) := by
  intro fuel cs x h
  obtain ⟨s, hs, -, hsz⟩ := DataW.trod_string Tryz.underlying9 h
  subst hs
  exact ⟨s, D.rd_str hsz, trivial⟩
theorem open_StringS {r : Reach} {b0 : Nat} {v : Value} {d : DataW H} {p : List MemPlace} (hv : Value.okWide Tryz.prog w r b0 54 v) (h : DataW.Trod enc' Tryz.prog w 0 (fun _ => true) true 54 v d p) :
    ∃ ss, D.rd (fun _ => True) w v (slOf strE ss) := by
  obtain ⟨a, len, cap, rfl⟩ := okWide_slice Tryz.underlying54 hv
  obtain ⟨fuel, hf⟩ := h
  obtain ⟨u, ss, hu, hr⟩ := open_slOf strE_wide (by decide) Tryz.underlying54 cellsStr1 (fun m cs' x' _ hx => read_str m cs' x' hx) hf
  obtain rfl : Value.slice a len cap = u := by simpa [Value.cells] using hu
  exact ⟨ss, hr⟩
end
end Go.Proofs.YtooocakkjdhfiaaGreatDoor
/- Lists of ints: how a law measures, copies and compares them. -/
namespace Go.Proofs.YtooocakkjdhfiaaGreatDoor
set_option maxRecDepth 100000
open Go.RowKit Go.ChangeShapes Go.WideShapes

def intE (z : Int) : List D := [.num z]
theorem intE_wide : Wide intE 1 := fun _ => rfl
def IsI64 (z : Int) : Prop := -9223372036854775808 ≤ z ∧ z ≤ 9223372036854775807
theorem D.own_num {w : World} {z : Int} (h : IsI64 z) : D.own w (.int .i64 z) (.num z) [] := by rw [D.own]; exact ⟨rfl, h.1, h.2, rfl⟩
theorem D.rd_num {S : Nat → Prop} {w : World} {z : Int} (h : IsI64 z) : D.rd S w (.int .i64 z) (.num z) := by rw [D.rd]; exact ⟨rfl, h.1, h.2⟩
theorem ints_get {S : Nat → Prop} {w : World} {a : Option Addr} {n cap : Nat} {ss : List Int} (h : D.rd S w (.slice a n cap) (slOf intE ss)) (hne : ss ≠ []) : ∃ b off, a = some ⟨b, off, none⟩ ∧ S b ∧ b < w.heap.size ∧
    ∀ k (hk : k < ss.length), w.cell? ⟨b, off + k, none⟩ = some (.int .i64 ss[k]) ∧ IsI64 ss[k] := by
  obtain ⟨b, off, h0, h1, h2, h3⟩ := slOf_get intE_wide (by decide) h hne
  refine ⟨b, off, h0, h1, h2, fun k hk => ?_⟩
  obtain ⟨v, q0, q1⟩ := h3 k hk 0 (.num ss[k]) rfl
  rw [D.rd] at q1
  obtain ⟨rfl, q2⟩ := q1
  rw [Nat.mul_one, Nat.add_zero] at q0
  exact ⟨q0, q2⟩


def MadeInt (ss : List Int) (w : World) (e : Ending) (w' : World) : Prop := ∃ v F, e = .returned v ∧ D.own w' v (slOf intE ss) F ∧ (∀ x ∈ F, w.heap.size ≤ x) ∧ Below w.heap.size w w'
theorem infoIntS : (Tryz.prog.info? 3).map (fun i => (i.zero, i.size, i.bytes)) = some (some (.int .i64 0), 1, 8) := by kernel_rfl
theorem intE_take (ss : List Int) (k : Nat) (hk : k < ss.length) : (ss.take (k + 1)).flatMap intE = (ss.take k).flatMap intE ++ [.num ss[k]] := flat_take_succ ss k hk


/-- the value reads as the list -/
def IsIS (ss : List Int) (v : Value) (w : World) : Prop := D.rd (fun _ => True) w v (slOf intE ss)
theorem IsIS.form {ss : List Int} {v : Value} {w : World} (h : IsIS ss v w) : ∃ a cap, v = .slice a ss.length cap ∧ D.rd (fun _ => True) w (.slice a ss.length cap) (slOf intE ss) := by
  obtain ⟨a, cap, rfl, _, _⟩ := slOf_form h
  exact ⟨a, cap, rfl, h⟩
theorem IsIS.stable {ss : List Int} {w : World} : ∀ v w1 w2, Below w.heap.size w w1 → Below w1.heap.size w1 w2 → IsIS ss v w1 → IsIS ss v w2 :=
  fun _ _ _ _ hb h => D.rd_keep (Keeps.all hb) _ _ h

theorem cellsInt1 : Tryz.prog.cellsOf 3 = 1 := by kernel_rfl
section
variable {H : Type} {enc' : TypeId × Value → H} {w : World}
theorem read_int : ∀ (fuel : Nat) (cs : List Value) (x : DataW H × List MemPlace), DataW.trod enc' Tryz.prog w 0 (fun _ => true) true fuel 3 cs = some x → ∃ z : Int, CellsRd (fun _ => True) w cs (intE z) := by
  intro fuel cs x h
  obtain ⟨z, hz, -, hw⟩ := DataW.trod_int Tryz.underlying3 h
  subst hz
  exact ⟨z, D.rd_num (bounds_i64 hw), trivial⟩
end
end Go.Proofs.YtooocakkjdhfiaaGreatDoor
/- Data that a call owns are marked: lists of ints, lists of strings. -/
namespace Go.Proofs.YtooocakkjdhfiaaGreatDoor
set_option maxRecDepth 100000
open Go.RowKit

/-- only blocks of F are changed, and new ones laid -/
def Mk (F : List Nat) (w w' : World) : Prop := Keeps (· ∉ F) w w' ∧ ∀ B, B ≤ w.heap.size → (∀ x ∈ F, B ≤ x) → Below B w w'
theorem Mk.refl (F : List Nat) (w : World) : Mk F w w := ⟨Keeps.refl _ _, fun _ _ _ => Below.refl _ _⟩
theorem Mk.size {F : List Nat} {w w' : World} (h : Mk F w w') : w.heap.size ≤ w'.heap.size := h.1.size
theorem Mk.trans {F : List Nat} {a b c : World} (h : Mk F a b) (k : Mk F b c) : Mk F a c :=
  ⟨h.1.trans k.1, fun B hB hF => (h.2 B hB hF).trans (k.2 B (Nat.le_trans hB h.size) hF)⟩
theorem Mk.of_below {F : List Nat} {w w' : World} (h : Below w.heap.size w w') : Mk F w w' := ⟨Keeps.all h, fun _ hB _ => h.mono hB⟩
theorem Mk.mono {F G : List Nat} {w w' : World} (h : Mk F w w') (hs : ∀ x ∈ F, x ∈ G) : Mk G w w' := ⟨h.1.mono fun b hb q => hb (hs b q), fun B hB hG => h.2 B hB fun x hx => hG x (hs x hx)⟩
theorem Mk.set {F : List Nat} {w : World} {b p : Nat} (hb : b ∈ F) (u : Value) : Mk F w (w.setCell ⟨b, p, none⟩ u) :=
  ⟨(Keeps.refl _ _).setCell (fun q _ => q hb) _, fun _ _ hF => (Below.refl _ _).setCell (p := ⟨b, p, none⟩) (hF b hb) u⟩

def mixI (zs : List Int) (k : Nat) : Nat → List Int
  | 0 => zs
  | j + 1 => (mixI zs k j).set j ((k + j : Nat) : Int)
theorem mixI_length (zs : List Int) (k : Nat) : ∀ j, (mixI zs k j).length = zs.length
  | 0 => rfl
  | j + 1 => by rw [mixI, List.length_set, mixI_length zs k j]
theorem mixI_get (zs : List Int) (k : Nat) : ∀ j i (h : i < (mixI zs k j).length), i < j → (mixI zs k j)[i] = ((k + i : Nat) : Int)
  | 0, i, h, hi => absurd hi (by omega)
  | j + 1, i, h, hi => by
    simp only [mixI, List.getElem_set]
    split
    · rename_i e; subst e; rfl
    · exact mixI_get zs k j i (by simpa [mixI] using h) (by omega)
theorem flat_set_int (l : List Int) (j : Nat) (z : Int) : (l.flatMap intE).set j (.num z) = (l.set j z).flatMap intE := by
  have e : ∀ l : List Int, l.flatMap intE = l.map D.num := by intro l; induction l with
    | nil => rfl
    | cons x l ih => rw [List.flatMap_cons, ih]; rfl
  rw [e, e, List.map_set]



def mixS (zs : List ByteArray) (k : Nat) : Nat → List ByteArray
  | 0 => zs
  | j + 1 => (mixS zs k j).set j (bs (mtext (k + j)))
theorem mixS_length (zs : List ByteArray) (k : Nat) : ∀ j, (mixS zs k j).length = zs.length
  | 0 => rfl
  | j + 1 => by rw [mixS, List.length_set, mixS_length zs k j]
theorem mixS_get (zs : List ByteArray) (k : Nat) : ∀ j i (h : i < (mixS zs k j).length), i < j → (mixS zs k j)[i] = bs (mtext (k + i))
  | 0, i, h, hi => absurd hi (by omega)
  | j + 1, i, h, hi => by
    simp only [mixS, List.getElem_set]
    split
    · rename_i e; subst e; rfl
    · exact mixS_get zs k j i (by simpa [mixS] using h) (by omega)
theorem flat_set_str (l : List ByteArray) (j : Nat) (z : ByteArray) : (l.flatMap strE).set j (.str z) = (l.set j z).flatMap strE := by
  have e : ∀ l : List ByteArray, l.flatMap strE = l.map D.str := by intro l; induction l with
    | nil => rfl
    | cons x l ih => rw [List.flatMap_cons, ih]; rfl
  rw [e, e, List.map_set]


end Go.Proofs.YtooocakkjdhfiaaGreatDoor
/- Terms that a call owns are marked. -/
namespace Go.Proofs.YtooocakkjdhfiaaGreatDoor
set_option maxRecDepth 100000
open Go.RowKit

mutual
/-- an element of a list of terms with its marks from k on -/
def Tm.mke : Tm → Nat → Tm
  | .node _ ts, k => .node (bs (mtext k)) (Tm.mks ts (k + 1))
def Tm.mks : List Tm → Nat → List Tm
  | [], _ => []
  | t :: ts, k => Tm.mke t k :: Tm.mks ts (k + t.size)
end
theorem Tm.mks_length : ∀ (ts : List Tm) (k : Nat), (Tm.mks ts k).length = ts.length
  | [], k => by simp [Tm.mks]
  | t :: ts, k => by rw [Tm.mks, List.length_cons, List.length_cons, Tm.mks_length ts]
theorem Tm.mks_snoc : ∀ (ts : List Tm) (t : Tm) (k : Nat), Tm.mks (ts ++ [t]) k = Tm.mks ts k ++ [Tm.mke t (k + Tm.sizes ts)]
  | [], t, k => by simp [Tm.mks, Tm.sizes]
  | s :: ts, t, k => by rw [List.cons_append, Tm.mks, Tm.mks_snoc ts t, Tm.mks, Tm.sizes, Nat.add_assoc]; rfl
theorem Tm.mke_eq (t : Tm) (k : Nat) : Tm.mke t k = .node (bs (mtext k)) (Tm.mks t.args (k + 1)) := by cases t; rw [Tm.mke]; rfl
theorem Tm.css_set0 (m : ByteArray) : ∀ (L : List Tm) (j : Nat) (h : j < L.length), (Tm.css L).set (j * 2) (.str m) = Tm.css (L.set j (.node m L[j].args))
  | [], j, h => absurd h (by simp)
  | t :: L, 0, _ => by cases t; simp [Tm.css, Tm.cs, Tm.args]
  | t :: L, j + 1, h => by
    have ih := Tm.css_set0 m L j (by simpa using h)
    cases t
    rw [List.set_cons_succ, Tm.css, Tm.css, List.getElem_cons_succ, ← ih, Tm.cs, show (j + 1) * 2 = j * 2 + 2 by omega]
    rfl
theorem Tm.css_set1 (us : List Tm) : ∀ (L : List Tm) (j : Nat) (h : j < L.length), (Tm.css L).set (j * 2 + 1) (Tm.sd us) = Tm.css (L.set j (.node L[j].name us))
  | [], j, h => absurd h (by simp)
  | t :: L, 0, _ => by cases t; simp [Tm.css, Tm.cs, Tm.name, Tm.sd]
  | t :: L, j + 1, h => by
    have ih := Tm.css_set1 us L j (by simpa using h)
    cases t
    rw [List.set_cons_succ, Tm.css, Tm.css, List.getElem_cons_succ, ← ih, Tm.cs, show (j + 1) * 2 + 1 = j * 2 + 1 + 2 by omega]
    rfl
theorem Tm.css_len (L : List Tm) : (Tm.css L).length = L.length * 2 := by rw [Tm.css_flat, flat_length Tm.cs_wide]
theorem Tm.css_get0 : ∀ (L : List Tm) (j : Nat) (h : j < L.length) (h' : j * 2 < (Tm.css L).length), (Tm.css L)[j * 2] = .str L[j].name
  | [], j, h, _ => absurd h (by simp)
  | t :: L, 0, _, _ => by cases t; simp [Tm.css, Tm.cs, Tm.name]
  | t :: L, j + 1, h, h' => by
    have ih := Tm.css_get0 L j (by simpa using h) (by rw [Tm.css_len]; simp at h; omega)
    cases t
    simp only [Tm.css, Tm.cs, show (j + 1) * 2 = j * 2 + 1 + 1 by omega, List.cons_append, List.getElem_cons_succ, List.nil_append]
    exact ih
theorem Tm.css_get1 : ∀ (L : List Tm) (j : Nat) (h : j < L.length) (h' : j * 2 + 1 < (Tm.css L).length), (Tm.css L)[j * 2 + 1] = Tm.sd L[j].args
  | [], j, h, _ => absurd h (by simp)
  | t :: L, 0, _, _ => by cases t; simp [Tm.css, Tm.cs, Tm.args, Tm.sd]
  | t :: L, j + 1, h, h' => by
    have ih := Tm.css_get1 L j (by simpa using h) (by rw [Tm.css_len]; simp at h; omega)
    cases t
    simp only [Tm.css, Tm.cs, show (j + 1) * 2 + 1 = j * 2 + 1 + 1 + 1 by omega, List.cons_append, List.getElem_cons_succ, List.nil_append]
    exact ih

/-- the list of which j terms are marked -/
def Tm.mix (ts : List Tm) (k j : Nat) : List Tm := Tm.mks (ts.take j) k ++ ts.drop j
theorem Tm.mix_length (ts : List Tm) (k j : Nat) : (Tm.mix ts k j).length = ts.length := by
  rw [Tm.mix, List.length_append, Tm.mks_length, List.length_take, List.length_drop]; omega
theorem Tm.mix_get (ts : List Tm) (k j : Nat) (h : j < ts.length) (h' : j < (Tm.mix ts k j).length) : (Tm.mix ts k j)[j] = ts[j] := by
  simp only [Tm.mix]
  rw [List.getElem_append_right (by rw [Tm.mks_length, List.length_take]; omega)]
  simp only [Tm.mks_length, List.length_take, List.getElem_drop, show min j ts.length = j by omega, Nat.sub_self, Nat.add_zero]
theorem Tm.mix_set (ts : List Tm) (k j : Nat) (h : j < ts.length) : (Tm.mix ts k j).set j (Tm.mke ts[j] (k + Tm.sizes (ts.take j))) = Tm.mix ts k (j + 1) := by
  have hl : (Tm.mks (ts.take j) k).length = j := by rw [Tm.mks_length, List.length_take]; omega
  rw [Tm.mix, List.set_append_right _ _ (by omega), hl, Nat.sub_self, Tm.mix, List.take_succ_eq_append_getElem h, Tm.mks_snoc, List.append_assoc, List.drop_eq_getElem_cons h]
  rfl

def MarkS (ts : List Tm) : Prop := ∀ (k : Nat) (v : Value) (F : List Nat) (w : World), k + Tm.sizes ts ≤ 1099511627776 → D.own w v (Tm.sd ts) F →
  Calls Tryz.prog 40 #[v, .int .i64 k] w fun e w' => e = .returned (.int .i64 (k + Tm.sizes ts : Nat)) ∧ Mk F w w' ∧ D.own w' v (Tm.sd (Tm.mks ts k)) F
theorem own_same {w : World} {b off n cap m : Nat} {cs : List D} {F : List Nat} (h : D.own w (.slice (some ⟨b, off, none⟩) n cap) (.sl m cs) F) : n = m := by
  rw [D.own] at h; obtain ⟨_, _, e, _⟩ := h; injection e
set_option maxHeartbeats 2000000 in
theorem markTermS_of (ts : List Tm) (h : ∀ t ∈ ts, MarkS t.args) : MarkS ts := by
  intro k v F w hk ho
  obtain ⟨a, cap, rfl⟩ := Tm.sd_own_form ho
  obtain ⟨_, _, ef, hlen, _⟩ := Tm.sd_form (D.own_rd _ _ _ ho)
  unfold big at hlen
  clear ef
  go_enter Tryz.func40, Tryz.ntmps40
  go_wp2_with fail
  go_loopw [1, 5] (fun x i wr => ∃ j : Nat, j ≤ ts.length ∧ i = .int .i64 j ∧ x = .int .i64 (k + Tm.sizes (ts.take j) : Nat) ∧ Hid (D.own wr (.slice a ts.length cap) (Tm.sd (Tm.mix ts k j)) F) ∧ Mk F w wr) (fun _ i _ => ts.length - (intOf i).toNat)
  case atStart => exact ⟨0, Nat.zero_le _, rfl, by simp [Tm.sizes], by rw [Tm.mix, List.take_zero, Tm.mks, List.nil_append, List.drop_zero]; exact ho, Mk.refl _ _⟩
  case round =>
    obtain ⟨j, hj, rfl, rfl, HO, hm⟩ := hrel
    by_cases hlt : j < ts.length
    · have hl := Tm.mix_length ts k j
      have hst := Tm.sizes_take ts j hlt
      have hsl := Tm.sizes_le ts (j + 1)
      obtain ⟨q, HQ⟩ : ∃ q, Hid (k + Tm.sizes (ts.take j) = q) := ⟨_, hid rfl⟩
      rw [HQ.out]
      have hsz : ts[j].size = 1 + Tm.sizes ts[j].args := by cases ts[j]; rw [Tm.size]; rfl
      have hq : q + 1 + Tm.sizes ts[j].args ≤ 1099511627776 := by have := HQ.out; omega
      have HE : Hid (q + 1 + Tm.sizes ts[j].args = k + Tm.sizes (ts.take (j + 1))) := by have := HQ.out; show _ = _; omega
      have hne : Tm.mix ts k j ≠ [] := by intro e; rw [e] at hl; simp at hl; omega
      have hcl := Tm.css_len (Tm.mix ts k j)
      have hcne : Tm.css (Tm.mix ts k j) ≠ [] := by intro e; rw [e] at hcl; simp at hcl; omega
      obtain ⟨-, b, off, F', rfl, rfl, hbF, hbl, hfr, -⟩ := D.own_slice HO.out hcne
      have HMT := markText_any q (by omega) wr
      clear hst hsl hsz
      go_wp2_with fail
      refine HMT.mono ?_
      rintro e w1 ⟨_, rfl, hb1, rfl⟩
      have HO1 := hid (D.own_keep _ _ _ (Keeps.all hb1) HO.out)
      obtain ⟨b', off', e, -, -, hrr⟩ := Tm.sd_get (D.own_rd _ _ _ HO1.out) hne
      obtain ⟨rfl, rfl⟩ : b = b' ∧ off = off' := by injection e with e; injection e with e1 e2; exact ⟨e1, e2⟩
      obtain ⟨c0, c1, x0, x1, -⟩ := hrr j (by omega)
      obtain ⟨-, _, _, _, e2, e3, -, -, hfr1, -⟩ := D.own_slice HO1.out hcne
      obtain ⟨rfl, rfl⟩ : _ = _ ∧ _ = _ := by injection e2 with e2; injection e2 with e1 e2; exact ⟨e1, e2⟩
      have hf0 := hfr1 (off + j * 2)
      have HN : Hid (D.own (w1.setCell ⟨b, off + j * 2, none⟩ (.string (bs (mtext q)))) (.slice (some ⟨b, off, none⟩) ts.length cap) (.sl ts.length (Tm.css ((Tm.mix ts k j).set j (.node (bs (mtext q)) ts[j].args)))) (b :: F')) := by
        have h0 := HO1.out
        rw [Tm.sd, hl] at h0
        have h1 := D.own_store h0 (j := j * 2) (u := .string (bs (mtext q))) (d' := .str (bs (mtext q))) (by omega) (fun v G hv => ?_) (fun w' => D.own_str (by rw [bs_size]; have := mtext_length q; unfold maxLen; omega))
        · rw [Tm.css_set0 _ _ _ (by omega), Tm.mix_get _ _ _ hlt] at h1; exact h1
        · rw [Tm.css_get0 _ _ (by omega), D.own] at hv
          exact hv.2.2
      obtain ⟨Fj, vj, y0, y1, hsub, hbj, hup⟩ := D.own_sub HN.out (j := j * 2 + 1) (by rw [Tm.css_len, List.length_set]; omega)
      rw [Tm.css_get1 _ _ (by rw [List.length_set]; omega), List.getElem_set_self] at y1
      have y2 : w1.cell? ⟨b, off + j * 2 + 1, none⟩ = some vj := by
        have y3 := y0
        rw [World.cell?_setCell_other _ _ _ _ (by intro e; injection e with _ e; omega)] at y3
        exact y3
      obtain rfl : c1 = vj := by rw [x1] at y2; injection y2
      have HU := hid hup
      have hsw := World.size_setCell w1 ⟨b, off + j * 2, none⟩ (.string (bs (mtext q)))
      have HM1 := hid ((hm.trans (Mk.of_below hb1)).trans (Mk.set (p := off + j * 2) (List.mem_cons_self ..) (.string (bs (mtext q)))))
      have HR := h ts[j] (List.getElem_mem hlt) (q + 1) _ _ _ (by omega) y1
      rw [show ((q + 1 : Nat) : Int) = (q : Int) + 1 from by omega] at HR
      clear hrr hfr hfr1 e e2 e3 hb1 HMT hup hsw y0 y1 y2
      go_wp2_with fail
      refine HR.mono ?_
      rintro e w2 ⟨rfl, hm2, ho2⟩
      have HX := hid (HU.out w2 _ ho2 hm2.1)
      have HM2 := hid (HM1.out.trans (hm2.mono hsub))
      have HN2 : Hid (D.own w2 (.slice (some ⟨b, off, none⟩) ts.length cap) (Tm.sd (Tm.mix ts k (j + 1))) (b :: F')) := by
        have h1 := HX.out
        rw [Tm.css_set1 _ _ _ (by rw [List.length_set]; omega), List.getElem_set_self, List.set_set] at h1
        rw [Hid, Tm.sd, Tm.mix_length, ← Tm.mix_set _ _ _ hlt, HQ.out, Tm.mke_eq]
        exact h1
      rw [HE.out]
      clear HR hm2 ho2
      go_wp2_with fail
      go_roundw
      case rel => exact ⟨j + 1, by omega, by go_num, rfl, HN2, HM2.out⟩
      case measure => simp [intOf]; omega
    · obtain rfl : j = ts.length := by omega
      go_wp2_with fail
      go_ret
      refine ⟨by rw [List.take_length]; rfl, hm, ?_⟩
      have := HO.out
      rwa [Tm.mix, List.take_length, List.drop_length, List.append_nil] at this
theorem markTermS_any (ts : List Tm) : MarkS ts := by
  have key : ∀ t : Tm, MarkS t.args := fun t => Tm.ind (P := fun t => MarkS t.args) (fun n ts h => markTermS_of ts h) t
  exact key (.node ByteArray.empty ts)
end Go.Proofs.YtooocakkjdhfiaaGreatDoor
/- Marked terms are found marked.. -/
namespace Go.Proofs.YtooocakkjdhfiaaGreatDoor
set_option maxRecDepth 100000
open Go.RowKit

theorem Tm.mks_get : ∀ (ts : List Tm) (k j : Nat) (h : j < ts.length) (h' : j < (Tm.mks ts k).length), (Tm.mks ts k)[j] = Tm.mke ts[j] (k + Tm.sizes (ts.take j))
  | [], k, j, h, _ => absurd h (by simp)
  | t :: ts, k, 0, _, _ => by simp [Tm.mks, Tm.sizes]
  | t :: ts, k, j + 1, h, h' => by
    have ih := Tm.mks_get ts (k + t.size) j (by simpa using h) (by rw [Tm.mks_length]; simpa using h)
    simp only [Tm.mks, List.getElem_cons_succ, List.take_succ_cons, Tm.sizes]
    rw [ih, Nat.add_assoc]

def HeldS (ts : List Tm) : Prop := ∀ (k : Nat) (S : Nat → Prop) (v : Value) (w : World), k + Tm.sizes ts ≤ 1099511627776 → D.rd S w v (Tm.sd (Tm.mks ts k)) →
  Calls Tryz.prog 41 #[v, .int .i64 k] w (Gives w (.int .i64 (k + Tm.sizes ts : Nat)))
set_option maxHeartbeats 2000000 in
theorem heldTermS_of (ts : List Tm) (h : ∀ t ∈ ts, HeldS t.args) : HeldS ts := by
  intro k S v w hk hr
  have hl := Tm.mks_length ts k
  obtain ⟨a, cap, rfl, hlen, hcap⟩ := Tm.sd_form hr
  rw [hl] at hlen hcap ⊢
  rw [hl] at hr
  unfold big at hlen
  go_enter Tryz.func41, Tryz.ntmps41
  go_wp2_with fail
  go_loopw [1, 5] (fun x i wr => ∃ j : Nat, j ≤ ts.length ∧ i = .int .i64 j ∧ x = .int .i64 (k + Tm.sizes (ts.take j) : Nat) ∧ Below w.heap.size w wr) (fun _ i _ => ts.length - (intOf i).toNat)
  case atStart => exact ⟨0, Nat.zero_le _, rfl, by simp [Tm.sizes], Below.refl _ _⟩
  case round =>
    obtain ⟨j, hj, rfl, rfl, hb⟩ := hrel
    by_cases hlt : j < ts.length
    · have hst := Tm.sizes_take ts j hlt
      have hsl := Tm.sizes_le ts (j + 1)
      have hg := Tm.mks_get ts k j hlt (by omega)
      obtain ⟨q, HQ⟩ : ∃ q, Hid (k + Tm.sizes (ts.take j) = q) := ⟨_, hid rfl⟩
      rw [HQ.out] at hg ⊢
      have hsz : ts[j].size = 1 + Tm.sizes ts[j].args := by cases ts[j]; rw [Tm.size]; rfl
      have hq : q + 1 + Tm.sizes ts[j].args ≤ 1099511627776 := by have := HQ.out; omega
      have HE : Hid (q + 1 + Tm.sizes ts[j].args = k + Tm.sizes (ts.take (j + 1))) := by have := HQ.out; show _ = _; omega
      have hne : Tm.mks ts k ≠ [] := by intro e; rw [e] at hl; simp at hl; omega
      obtain ⟨b, off, rfl, hS, hbl, hrr⟩ := Tm.sd_get hr hne
      obtain ⟨c0, c1, q0, q1, q2⟩ := hrr j (by omega)
      obtain ⟨us, HUS⟩ : ∃ us, Hid (Tm.mks ts[j].args (q + 1) = us) := ⟨_, hid rfl⟩
      rw [hg, Tm.mke_eq, HUS.out] at q2
      obtain ⟨rfl, -, x, xc, rfl⟩ := Tm.at_form q2
      replace q0 := (hb.cell (p := ⟨b, off + j * 2, none⟩) hbl).trans q0
      replace q1 := (hb.cell (p := ⟨b, off + j * 2 + 1, none⟩) hbl).trans q1
      have q3 := D.rd_keep (Keeps.all hb) _ _ q2.2
      simp only [Tm.name, Tm.args] at q0 q1 q3
      have hbr : b < wr.heap.size := Nat.lt_of_lt_of_le hbl hb.size
      have Hr := hid hr
      clear hst hsl hsz hg hrr q2 hne hr
      go_wp2_with fail
      refine wp_region_B [fun v _ => v = .slice (some ⟨b, off, none⟩) ts.length cap, fun v _ => v = .int .i64 j, fun v _ => v = .pointer (some ⟨b, off + j * 2, none⟩), fun v _ => v = .pointer (some ⟨b, off + j * 2, none⟩), fun v _ => v = .string (bs (mtext q)), fun v _ => v = .int .i64 q, fun v _ => v = .string (bs (mtext q)), fun v _ => v = .bool false] _ (fun V => by simp [putAll, Act.put]; rfl) (by kernel_rfl) (by decide) (by simp) (by kernel_rfl) ?_ ?_ ?_
      · intro F hF
        simp only [List.mem_cons, List.not_mem_nil, or_false] at hF
        rcases hF with rfl | rfl | rfl | rfl | rfl | rfl | rfl | rfl
        · exact stable_eq
        · exact stable_eq
        · exact stable_eq
        · exact stable_eq
        · exact stable_eq
        · exact stable_eq
        · exact stable_eq
        · exact stable_eq
      · refine ⟨?_, ?_, ?_, ?_, ?_, ?_, ?_, ?_, trivial⟩
        · intro V w1 hbR _
          unfold Does
          go_simp
          exact ⟨Below.refl _ _, rfl⟩
        · intro V w1 hbR _
          unfold Does
          go_simp
          exact ⟨Below.refl _ _, rfl⟩
        · intro V w1 hbR ⟨f0, f1, _⟩
          replace f0 : V 0 = .slice (some ⟨b, off, none⟩) ts.length cap := f0
          replace f1 : V 1 = .int .i64 j := f1
          unfold Does
          go_simp
          exact ⟨Below.refl _ _, rfl⟩
        · intro V w1 hbR ⟨f2, _⟩
          replace f2 : V 2 = .pointer (some ⟨b, off + j * 2, none⟩) := f2
          unfold Does
          go_simp
          exact ⟨Below.refl _ _, rfl⟩
        · intro V w1 hbR ⟨f3, _⟩
          replace f3 : V 3 = .pointer (some ⟨b, off + j * 2, none⟩) := f3
          obtain ⟨hc, hf⟩ := bcell hbR
          try simp only [World.size_alloc, World.size_setCell] at hc hf
          unfold Does
          go_simp
          exact ⟨Below.refl _ _, rfl⟩
        · intro V w1 hbR _
          unfold Does
          go_simp
          exact ⟨Below.refl _ _, rfl⟩
        · intro V w1 hbR ⟨f5, _⟩
          replace f5 : V 5 = .int .i64 q := f5
          obtain ⟨hc, hf⟩ := bcell hbR
          try simp only [World.size_alloc, World.size_setCell] at hc hf
          unfold Does
          go_simp
          exact markText_any q (by omega) w1
        · intro V w1 hbR ⟨f4, f6, _⟩
          replace f4 : V 4 = .string (bs (mtext q)) := f4
          replace f6 : V 6 = .string (bs (mtext q)) := f6
          unfold Does
          go_simp
          exact ⟨Below.refl _ _, rfl⟩
      intro V w3 hbR hfR
      obtain ⟨f0, f1, f2, f3, f4, f5, f6, f7, _⟩ := hfR
      replace f0 : V 0 = .slice (some ⟨b, off, none⟩) ts.length cap := f0
      replace f1 : V 1 = .int .i64 j := f1
      replace f2 : V 2 = .pointer (some ⟨b, off + j * 2, none⟩) := f2
      replace f3 : V 3 = .pointer (some ⟨b, off + j * 2, none⟩) := f3
      replace f4 : V 4 = .string (bs (mtext q)) := f4
      replace f5 : V 5 = .int .i64 q := f5
      replace f6 : V 6 = .string (bs (mtext q)) := f6
      replace f7 : V 7 = .bool false := f7
      simp only [f0, f1, f2, f3, f4, f5, f6, f7]
      clear f0 f1 f2 f3 f4 f5 f6 f7
      replace q1 := (hbR.cell (p := ⟨b, off + j * 2 + 1, none⟩) hbr).trans q1
      replace q3 := D.rd_keep (Keeps.all hbR) _ _ q3
      have HR := h ts[j] (List.getElem_mem hlt) (q + 1) _ (.slice x us.length xc) w3 (by omega) (by rw [HUS.out]; exact q3)
      rw [show ((q + 1 : Nat) : Int) = (q : Int) + 1 from by omega] at HR
      go_wp2_with fail
      refine HR.mono ?_
      rintro e w2 ⟨_, rfl, hb2, rfl⟩
      rw [HE.out]
      clear HR q3 q1 q0
      go_wp2_with fail
      go_roundw
      case rel => exact ⟨j + 1, by omega, by go_num, rfl, (hb.trans (hbR.mono hb.size)).trans (hb2.mono (Nat.le_trans hb.size hbR.size))⟩
      case measure => simp [intOf]; omega
    · obtain rfl : j = ts.length := by omega
      go_wp2_with fail
      go_ret
      exact Gives.mk (by rw [List.take_length]; rfl) hb
theorem heldTermS_any (ts : List Tm) : HeldS ts := by
  have key : ∀ t : Tm, HeldS t.args := fun t => Tm.ind (P := fun t => HeldS t.args) (fun n ts h => heldTermS_of ts h) t
  exact key (.node ByteArray.empty ts)
end Go.Proofs.YtooocakkjdhfiaaGreatDoor
/- A term (by value) is marked, and is found marked. -/
namespace Go.Proofs.YtooocakkjdhfiaaGreatDoor
set_option maxRecDepth 100000
open Go.RowKit

end Go.Proofs.YtooocakkjdhfiaaGreatDoor
/- Marks of lists whose items have two leaves and a list of terms. -/
namespace Go.Proofs.YtooocakkjdhfiaaGreatDoor
set_option maxRecDepth 100000
open Go.RowKit

/-- the cells of marked items, from mark k on; hd: the first cell's mark -/
def m3 (hd : Nat → D) : List (List Tm) → Nat → List D
  | [], _ => []
  | a :: us, k => hd k :: .str (bs (mtext (k + 1))) :: Tm.sd (Tm.mks a (k + 2)) :: m3 hd us (k + (2 + Tm.sizes a))
def c3 : List (List Tm) → Nat
  | [] => 0
  | a :: us => 2 + Tm.sizes a + c3 us
theorem m3_length (hd : Nat → D) : ∀ (us : List (List Tm)) (k : Nat), (m3 hd us k).length = us.length * 3
  | [], _ => rfl
  | a :: us, k => by rw [m3]; simp only [List.length_cons, m3_length hd us]; omega
theorem m3_snoc (hd : Nat → D) : ∀ (us : List (List Tm)) (a : List Tm) (k : Nat), m3 hd (us ++ [a]) k = m3 hd us k ++ [hd (k + c3 us), .str (bs (mtext (k + c3 us + 1))), Tm.sd (Tm.mks a (k + c3 us + 2))]
  | [], a, k => by simp [m3, c3]
  | b :: us, a, k => by
    rw [List.cons_append, m3, m3_snoc hd us a, m3, c3]
    simp only [List.cons_append]
    rw [show k + (2 + Tm.sizes b) + c3 us = k + (2 + Tm.sizes b + c3 us) by omega]
theorem c3_take : ∀ (us : List (List Tm)) (j : Nat) (h : j < us.length), c3 (us.take (j + 1)) = c3 (us.take j) + (2 + Tm.sizes us[j])
  | [], j, h => absurd h (by simp)
  | a :: us, 0, _ => by simp [c3]
  | a :: us, j + 1, h => by
    have := c3_take us j (by simpa using h)
    simp only [List.take_succ_cons, c3, List.getElem_cons_succ]
    rw [this]; omega
theorem c3_le : ∀ (us : List (List Tm)) (j : Nat), c3 (us.take j) ≤ c3 us
  | [], j => by simp
  | a :: us, 0 => by simp [c3]
  | a :: us, j + 1 => by
    have := c3_le us j
    simp only [List.take_succ_cons, c3]; omega
/-- what of a list lies behind j items -/
theorem drop3 {ds : List D} {n j : Nat} (hl : ds.length = n * 3) (hj : j < n) : ∃ x y z, ds.drop (j * 3) = x :: y :: z :: ds.drop ((j + 1) * 3) ∧ ds[j * 3]? = some x ∧ ds[j * 3 + 1]? = some y ∧ ds[j * 3 + 2]? = some z := by
  have h0 : j * 3 < ds.length := by omega
  have h1 : j * 3 + 1 < ds.length := by omega
  have h2 : j * 3 + 2 < ds.length := by omega
  refine ⟨ds[j * 3], ds[j * 3 + 1], ds[j * 3 + 2], ?_, List.getElem?_eq_getElem _, List.getElem?_eq_getElem _, List.getElem?_eq_getElem _⟩
  rw [List.drop_eq_getElem_cons h0, List.drop_eq_getElem_cons h1, List.drop_eq_getElem_cons h2, show j * 3 + 2 + 1 = (j + 1) * 3 by omega]
theorem set_mid {A R : List D} {x d : D} {n : Nat} (h : n = A.length) : (A ++ x :: R).set n d = A ++ d :: R := by
  subst h
  rw [List.set_append_right _ _ (Nat.le_refl _)]; simp
theorem get_mid {A R : List D} {x : D} {n : Nat} (h : n = A.length) (hl : n < (A ++ x :: R).length) : (A ++ x :: R)[n] = x := by
  subst h
  rw [List.getElem_append_right (Nat.le_refl _)]; simp
/-- a cell of owned data is there and may be written -/
theorem own_cell {w : World} {b off n cap : Nat} {ds : List D} {F : List Nat} (h : D.own w (.slice (some ⟨b, off, none⟩) n cap) (.sl n ds) F) {i : Nat} (hi : i < ds.length) : (∃ v, w.cell? ⟨b, off + i, none⟩ = some v) ∧ w.frozen? ⟨b, off + i, none⟩ = false := by
  have hne : ds ≠ [] := by intro e; subst e; simp at hi
  obtain ⟨-, b', off', F', e, rfl, hbF, hbl, hfr, ho⟩ := D.own_slice h hne
  injection e with e; injection e with e1 e2; subst e1 e2
  have hr := D.own_rd _ _ _ h
  rw [D.rd] at hr
  obtain ⟨a, c, e, _, _, _, h4⟩ := hr
  obtain ⟨b2, off2, q0, _, _, q3⟩ := h4 hne
  injection e with e0 _ _
  rw [q0] at e0
  injection e0 with e0; injection e0 with e1 e2
  subst e1 e2
  obtain ⟨v, q, _⟩ := D.rds_get q3 (List.getElem?_eq_getElem hi)
  exact ⟨⟨v, q⟩, hfr _⟩
theorem own_at {w : World} {a : Option Addr} {n m cap : Nat} {ds : List D} {F : List Nat} (h : D.own w (.slice a n cap) (.sl m ds) F) (hne : ds ≠ []) : ∃ b off F', a = some ⟨b, off, none⟩ ∧ F = b :: F' := by
  obtain ⟨-, b, off, F', e, e2, _⟩ := D.own_slice h hne
  exact ⟨b, off, F', e, e2⟩
def D.leaf : D → Prop
  | .sl _ _ => False
  | _ => True
theorem leaf_own {w : World} {v : Value} {d : D} {G : List Nat} (hd : d.leaf) (h : D.own w v d G) : G = [] := by
  cases d with
  | str s => rw [D.own] at h; exact h.2.2
  | num n => rw [D.own] at h; exact h.2.2.2
  | bit b => rw [D.own] at h; exact h.2
  | sl n cs => exact hd.elim
/-- a leaf in the middle is stored -/
theorem own_put {w : World} {b off n cap i : Nat} {A R : List D} {x d : D} {u : Value} {F : List Nat} (h : D.own w (.slice (some ⟨b, off, none⟩) n cap) (.sl n (A ++ x :: R)) F) (hi : i = A.length) (hx : x.leaf) (hu : ∀ w', D.own w' u d []) : D.own (w.setCell ⟨b, off + i, none⟩ u) (.slice (some ⟨b, off, none⟩) n cap) (.sl n (A ++ d :: R)) F := by
  have hl : i < (A ++ x :: R).length := by subst hi; simp
  have := D.own_store h hl (u := u) (d' := d) (fun v G hv => by rw [get_mid hi] at hv; exact leaf_own hx hv) hu
  rwa [set_mid hi] at this
theorem m3_get (hd : Nat → D) : ∀ (us : List (List Tm)) (k j : Nat) (h : j < us.length), (m3 hd us k)[j * 3]? = some (hd (k + c3 (us.take j))) ∧ (m3 hd us k)[j * 3 + 1]? = some (.str (bs (mtext (k + c3 (us.take j) + 1)))) ∧ (m3 hd us k)[j * 3 + 2]? = some (Tm.sd (Tm.mks us[j] (k + c3 (us.take j) + 2)))
  | [], k, j, h => absurd h (by simp)
  | a :: us, k, 0, _ => by simp [m3, c3]
  | a :: us, k, j + 1, h => by
    have ih := m3_get hd us (k + (2 + Tm.sizes a)) j (by simpa using h)
    rw [m3]
    simp only [List.take_succ_cons, c3, List.getElem_cons_succ]
    rw [show (j + 1) * 3 = j * 3 + 1 + 1 + 1 by omega, show j * 3 + 1 + 1 + 1 + 1 = (j * 3 + 1) + 1 + 1 + 1 by omega, show j * 3 + 1 + 1 + 1 + 2 = (j * 3 + 2) + 1 + 1 + 1 by omega]
    simp only [List.getElem?_cons_succ]
    rw [show k + (2 + Tm.sizes a + c3 (us.take j)) = k + (2 + Tm.sizes a) + c3 (us.take j) by omega]
    exact ih
end Go.Proofs.YtooocakkjdhfiaaGreatDoor
