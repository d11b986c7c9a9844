/- Several texts in one file. -/
import Derived.Test.YtglhbaigigdeeaaGreatQ01
import Derived.Test.YtglhbaigigdeeaaGreatQ02
import Derived.Lib.Join
import Derived.Laws.Concat
import Derived.Test.YtglhbaigigdeeaaGreatRows
import Derived.WalkSpells
import Derived.WalkLawsBesides
import Derived.Laws.BytesString
import Derived.Laws.IdiomStrings
import Derived.Test.YtglhbaigigdeeaaGreatQ03
import Derived.OpenShut
import Derived.Test.YtglhbaigigdeeaaGreatQ04
/- A part of data that is owned is put anew. -/
namespace Go.Proofs.YtglhbaigigdeeaaGreat
set_option maxRecDepth 100000
open Go.RowKit

theorem D.owns_upd {w : World} {b : Nat} : ∀ (cs : List D) (off : Nat) (F : List Nat), D.owns w b off cs F → ∀ j (hj : j < cs.length), ∃ Fj A B, F = A ++ Fj ++ B ∧
    (∃ v, w.cell? ⟨b, off + j, none⟩ = some v ∧ D.own w v cs[j] Fj) ∧ (∀ x ∈ Fj, x ∉ A ∧ x ∉ B) ∧
    ∀ (w' : World) (d' : D), (∃ v', w'.cell? ⟨b, off + j, none⟩ = some v' ∧ D.own w' v' d' Fj) → (∀ i, i < cs.length → i ≠ j → w'.cell? ⟨b, off + i, none⟩ = w.cell? ⟨b, off + i, none⟩) →
      Keeps (fun x => x ∈ A ∨ x ∈ B) w w' → D.owns w' b off (cs.set j d') F
  | [], _, _, _, j, hj => absurd hj (by simp)
  | c :: cs, off, F, h, 0, _ => by
    rw [D.owns] at h
    obtain ⟨F1, F2, rfl, hd, hv, hr⟩ := h
    refine ⟨F1, [], F2, by simp, by simpa using hv, fun x hx => ⟨by simp, hd x hx⟩, fun w' d' hv' hc hk => ?_⟩
    rw [List.set_cons_zero, D.owns]
    refine ⟨F1, F2, rfl, hd, by simpa using hv', D.owns_keep cs (off + 1) F2 (fun i hi => ?_) (hk.mono fun x hx => .inr hx) hr⟩
    have := hc (i + 1) (by simpa using hi) (by omega)
    rw [show off + (i + 1) = off + 1 + i by omega] at this
    exact this
  | c :: cs, off, F, h, j + 1, hj => by
    rw [D.owns] at h
    obtain ⟨F1, F2, rfl, hd, hv, hr⟩ := h
    obtain ⟨Fj, A, B, rfl, hvj, hdj, hup⟩ := D.owns_upd cs (off + 1) F2 hr j (by simpa using hj)
    refine ⟨Fj, F1 ++ A, B, by simp [List.append_assoc], ?_, fun x hx => ⟨?_, (hdj x hx).2⟩, fun w' d' hv' hc hk => ?_⟩
    · rw [show off + (j + 1) = off + 1 + j by omega]; simpa using hvj
    · simp only [List.mem_append, not_or]
      exact ⟨fun q => hd x q (by simp [hx]), (hdj x hx).1⟩
    · rw [List.set_cons_succ, D.owns]
      obtain ⟨v, q0, q1⟩ := hv
      refine ⟨F1, A ++ Fj ++ B, rfl, hd, ⟨v, ?_, D.own_keep _ _ _ (hk.mono fun x hx => .inl (by simp [show x ∈ F1 from hx])) q1⟩, hup w' d' ?_ (fun i hi hij => ?_) (hk.mono fun x hx => ?_)⟩
      · exact (hc 0 (by simp) (by omega)).trans q0
      · rw [show off + (j + 1) = off + 1 + j by omega] at hv'; exact hv'
      · have := hc (i + 1) (by simpa using hi) (by omega)
        rw [show off + (i + 1) = off + 1 + i by omega] at this
        exact this
      · rcases hx with q | q
        · exact .inl (by simp [q])
        · exact .inr q

theorem D.own_slice {w : World} {a : Option Addr} {n m cap : Nat} {cs : List D} {F : List Nat} (h : D.own w (.slice a m cap) (.sl n cs) F) (hne : cs ≠ []) : m = n ∧ ∃ b off F', a = some ⟨b, off, none⟩ ∧ F = b :: F' ∧ b ∉ F' ∧ b < w.heap.size ∧ (∀ p, w.frozen? ⟨b, p, none⟩ = false) ∧ D.owns w b off cs F' := by
  rw [D.own] at h
  obtain ⟨a', cap', e, h1, h2, h3, h4⟩ := h
  injection e with e0 e1 e2
  subst e0 e1 e2
  rcases h4 with ⟨h4, _⟩ | ⟨_, b, off, F', cur, e, q0, q1, rfl, q3, q4⟩
  · exact absurd h4 hne
  · exact ⟨rfl, b, off, F', q0, rfl, q3, lt_of_heap q1, fun p => by simp [World.frozen?, q1], q4⟩

/-- a leaf is stored -/
theorem D.own_store {w : World} {b off n cap : Nat} {cs : List D} {F : List Nat} (h : D.own w (.slice (some ⟨b, off, none⟩) n cap) (.sl n cs) F) {j : Nat} (hj : j < cs.length) {u : Value} {d' : D}
    (hl : ∀ v G, D.own w v cs[j] G → G = []) (hu : ∀ w', D.own w' u d' []) : D.own (w.setCell ⟨b, off + j, none⟩ u) (.slice (some ⟨b, off, none⟩) n cap) (.sl n (cs.set j d')) F := by
  rw [D.own] at h ⊢
  obtain ⟨a', cap', e, h1, h2, h3, h4⟩ := h
  injection e with e0 e1 e2
  subst e2
  have hne : cs ≠ [] := by intro e; subst e; simp at hj
  refine ⟨_, _, rfl, h1, h2, fun _ => by intro e; exact hne (by simpa using e), ?_⟩
  rcases h4 with ⟨h4, _⟩ | ⟨_, b', off', F', cur, e, q0, q1, rfl, q3, q4⟩
  · exact absurd h4 hne
  rw [← e0] at q0
  injection q0 with q0
  injection q0 with q5 q6
  subst q5 q6
  refine .inr ⟨by intro e; exact hne (by simpa using e), b, off, F', _, _, rfl, heap_setCell q1 u, rfl, q3, ?_⟩
  obtain ⟨Fj, A, B, rfl, ⟨v, r0, r1⟩, hdj, hup⟩ := D.owns_upd cs off F' q4 j hj
  have hF := hl v Fj r1
  subst hF
  refine hup _ d' ⟨u, ?_, hu _⟩ (fun i hi hij => ?_) ?_
  · exact World.cell?_setCell_same (u := v) _ _ _ r0
  · exact World.cell?_setCell_other _ _ _ _ (by intro e; injection e with _ e; omega)
  · refine (Keeps.refl _ _).setCell (fun q _ => q3 ?_) _
    have q : b ∈ A ∨ b ∈ B := q
    simpa using q

/-- a part of its own is put anew -/
theorem D.own_sub {w : World} {b off n cap : Nat} {cs : List D} {F : List Nat} (h : D.own w (.slice (some ⟨b, off, none⟩) n cap) (.sl n cs) F) {j : Nat} (hj : j < cs.length) :
    ∃ Fj v, w.cell? ⟨b, off + j, none⟩ = some v ∧ D.own w v cs[j] Fj ∧ (∀ x ∈ Fj, x ∈ F) ∧ b ∉ Fj ∧
      ∀ (w' : World) (d' : D), D.own w' v d' Fj → Keeps (· ∉ Fj) w w' → D.own w' (.slice (some ⟨b, off, none⟩) n cap) (.sl n (cs.set j d')) F := by
  rw [D.own] at h
  obtain ⟨a', cap', e, h1, h2, h3, h4⟩ := h
  injection e with e0 e1 e2
  subst e2
  have hne : cs ≠ [] := by intro e; subst e; simp at hj
  rcases h4 with ⟨h4, _⟩ | ⟨_, b', off', F', cur, e, q0, q1, rfl, q3, q4⟩
  · exact absurd h4 hne
  rw [← e0] at q0
  injection q0 with q0
  injection q0 with q5 q6
  subst q5 q6
  obtain ⟨Fj, A, B, rfl, ⟨v, r0, r1⟩, hdj, hup⟩ := D.owns_upd cs off F' q4 j hj
  have hbj : b ∉ Fj := fun q => q3 (by simp [q])
  refine ⟨Fj, v, r0, r1, fun x hx => by simp [hx], hbj, fun w' d' hv' hk => ?_⟩
  have hb := lt_of_heap q1
  rw [D.own]
  refine ⟨_, _, rfl, h1, h2, fun _ => by intro e; exact hne (by simpa using e), .inr ⟨by intro e; exact hne (by simpa using e), b, off, _, cur, _, rfl, (hk.block b hbj hb).trans q1, rfl, q3, hup w' d' ⟨v, (hk.cell hbj hb).trans r0, hv'⟩ (fun i _ _ => hk.cell hbj hb) (hk.mono fun x hx => ?_)⟩⟩
  intro hxj
  have := hdj x hxj
  rcases hx with q | q
  · exact this.1 q
  · exact this.2 q
end Go.Proofs.YtglhbaigigdeeaaGreat
/- The texts of expressions. Plain. -/
namespace Go.Proofs.YtglhbaigigdeeaaGreat
set_option maxRecDepth 100000
open Go.RowKit

/-- bytes as a string -/
def bs (l : List UInt8) : ByteArray := ⟨l.toArray⟩
theorem bs_append (a b : List UInt8) : bs a ++ bs b = bs (a ++ b) := ByteArray.mk_append_mk a b
theorem bs_of (s : ByteArray) : bs s.data.toList = s := by cases s; simp [bs]
theorem bs_size (l : List UInt8) : (bs l).size = l.length := by simp [bs, ByteArray.size]
theorem bs_left (s : ByteArray) (l : List UInt8) : s ++ bs l = bs (s.data.toList ++ l) := by rw [← bs_append, bs_of]
theorem bs_mk (a : Array UInt8) : (⟨a⟩ : ByteArray) = bs a.toList := by simp [bs]
theorem bs_list (l : List UInt8) : (bs l).data.toList = l := by simp [bs]

theorem join_snoc (xs : List (List UInt8)) (y sep : List UInt8) : Lib.join (xs ++ [y]) sep = if xs = [] then y else Lib.join xs sep ++ sep ++ y := by
  cases xs with
  | nil => simp [Lib.join_one]
  | cons x r => rw [if_neg (by simp), List.cons_append, Lib.join_cons, Lib.join_cons]; simp [Lib.joinTail, List.append_assoc]
theorem join_length (xs : List (List UInt8)) (sep : List UInt8) : (Lib.join xs sep).length ≤ Lib.lens xs + xs.length * sep.length := by
  cases xs with
  | nil => simp [Lib.join_nil]
  | cons x r =>
    rw [Lib.join_cons]
    have : (Lib.joinTail sep r).length = Lib.lens r + r.length * sep.length := by
      induction r with
      | nil => simp [Lib.joinTail, Lib.lens]
      | cons y r ih => simp only [Lib.joinTail, List.map_cons, List.flatten_cons, List.length_append, Lib.lens, List.sum_cons, List.length_cons] at ih ⊢; rw [ih, Nat.add_mul]; omega
    simp only [List.length_append, this, Lib.lens, List.map_cons, List.sum_cons, List.length_cons, Nat.add_mul]; omega

/-- a node's text out of its arguments' -/
def textOf (n : ByteArray) (xs : List (List UInt8)) : List UInt8 :=
  if n = eqSign then xs.getD 0 [] ++ [32, 61, 32] ++ xs.getD 1 [] else if xs = [] then n.data.toList else n.data.toList ++ [40] ++ Lib.join xs [44] ++ [41]
mutual
def Tm.text : Tm → List UInt8
  | .node n ts => textOf n (Tm.texts ts)
def Tm.texts : List Tm → List (List UInt8)
  | [] => []
  | t :: ts => Tm.text t :: Tm.texts ts
end
theorem Tm.texts_map (ts : List Tm) : Tm.texts ts = ts.map Tm.text := by
  induction ts with
  | nil => rfl
  | cons t ts ih => rw [Tm.texts, ih]; rfl
theorem Tm.texts_length (ts : List Tm) : (Tm.texts ts).length = ts.length := by rw [Tm.texts_map, List.length_map]
theorem Tm.texts_take_succ (ts : List Tm) (k : Nat) (hk : k < ts.length) : Tm.texts (ts.take (k + 1)) = Tm.texts (ts.take k) ++ [ts[k].text] := by
  rw [Tm.texts_map, Tm.texts_map, List.take_succ_eq_append_getElem hk, List.map_append]; rfl

theorem Tm.text_lens (t : Tm) : t.text.length ≤ t.bulk + 3 * t.size := by
  refine Tm.ind (P := fun t => t.text.length ≤ t.bulk + 3 * t.size) (fun n ts ih => ?_) t
  have key : ∀ ts : List Tm, (∀ a ∈ ts, a.text.length ≤ a.bulk + 3 * a.size) → Lib.lens (Tm.texts ts) ≤ Tm.bulks ts + 3 * Tm.sizes ts := by
    intro ts
    induction ts with
    | nil => intro _; simp [Tm.texts, Lib.lens]
    | cons t ts iht =>
      intro h
      have h0 := h t (by simp)
      have h1 := iht fun a ha => h a (by simp [ha])
      simp only [Lib.lens, Tm.texts, List.map_cons, List.sum_cons, Tm.bulks, Tm.sizes] at h1 ⊢; omega
  have hk := key ts ih
  have hl := Tm.texts_length ts
  rw [Tm.text, Tm.bulk, Tm.size, textOf]
  have hj := join_length (Tm.texts ts) [44]
  have hg : ∀ xs : List (List UInt8), (xs.getD 0 []).length + (xs.getD 1 []).length ≤ Lib.lens xs := by
    intro xs
    match xs with
    | [] => simp
    | [x] => simp [Lib.lens]
    | x :: y :: r => simp [Lib.lens]
  have hg' := hg (Tm.texts ts)
  have hns : n.data.toList.length = n.size := rfl
  split
  · simp only [List.length_append, List.length_cons, List.length_nil]; omega
  · split
    · omega
    · simp only [List.length_append, List.length_cons, List.length_nil] at hj ⊢; omega
/-- the text of an expression is short -/
theorem Tm.text_le (t : Tm) (h : t.bulk ≤ 1048576) : t.text.length ≤ 4194307 := by
  have := Tm.text_lens t; have := Tm.size_bulk t; omega

/-- behind k arguments -/
def opened (xs : List (List UInt8)) : List UInt8 := if xs = [] then [] else [40] ++ Lib.join xs [44]
theorem opened_nil : opened [] = [] := rfl
theorem opened_snoc (xs : List (List UInt8)) (y : List UInt8) : opened (xs ++ [y]) = opened xs ++ (if xs = [] then [40] else [44]) ++ y := by
  rw [opened, if_neg (by simp), join_snoc, opened]
  split
  · simp
  · simp [List.append_assoc]
theorem textOf_eq {n : ByteArray} (h : n = eqSign) {xs : List (List UInt8)} {a b : List UInt8} (hx : xs = [a, b]) : textOf n xs = a ++ [32, 61, 32] ++ b := by
  subst hx; rw [textOf, if_pos h]; rfl
theorem textOf_none {n : ByteArray} (h : n ≠ eqSign) : textOf n [] = n.data.toList := by rw [textOf, if_neg h, if_pos rfl]
theorem textOf_some {n : ByteArray} (h : n ≠ eqSign) {xs : List (List UInt8)} (hx : xs ≠ []) : textOf n xs = n.data.toList ++ opened xs ++ [41] := by
  rw [textOf, if_neg h, if_neg hx, opened, if_neg hx]; simp [List.append_assoc]
theorem textOf_join {n : ByteArray} (h : n ≠ eqSign) {xs : List (List UInt8)} (hx : xs ≠ []) : textOf n xs = n.data.toList ++ [40] ++ Lib.join xs [44] ++ [41] := by
  rw [textOf, if_neg h, if_neg hx]

mutual
/-- an equality has two sides -/
def Tm.sides : Tm → Prop
  | .node n ts => (n = eqSign → ts.length = 2) ∧ Tm.sidesAll ts
def Tm.sidesAll : List Tm → Prop
  | [] => True
  | t :: ts => Tm.sides t ∧ Tm.sidesAll ts
end
theorem Tm.sidesAll_iff (ts : List Tm) : Tm.sidesAll ts ↔ ∀ t ∈ ts, Tm.sides t := by
  induction ts with
  | nil => simp [Tm.sidesAll]
  | cons t ts ih => simp [Tm.sidesAll, ih]
theorem varName_eq : varName eqSign = false := by decide
theorem symName_eq : symName eqSign = false := by decide
theorem Tm.names_sides (t : Tm) : t.names = true → t.sides := by
  refine Tm.ind (P := fun t => t.names = true → t.sides) (fun n ts ih h => ?_) t
  rw [Tm.names] at h
  rw [Tm.sides, Tm.sidesAll_iff]
  by_cases hv : varName n = true
  · rw [if_pos hv] at h
    have : ts = [] := by simpa using h
    subst this
    exact ⟨fun e => by rw [e, varName_eq] at hv; exact absurd hv (by simp), by simp⟩
  · rw [if_neg hv] at h
    simp only [Bool.and_eq_true] at h
    refine ⟨fun e => ?_, fun t ht => ih t ht ((Tm.namesAll_iff ts).1 h.2 t ht)⟩
    rw [e, symName_eq] at h
    exact absurd h.1.1 (by simp)
end Go.Proofs.YtglhbaigigdeeaaGreat
/- The text of a mark. -/
namespace Go.Proofs.YtglhbaigigdeeaaGreat
set_option maxRecDepth 100000
open Go.RowKit

def digs (k : Nat) : List UInt8 := if _h : k = 0 then [] else digs (k / 10) ++ [UInt8.ofNat (48 + k % 10)]
termination_by k
decreasing_by omega
theorem digs_zero : digs 0 = [] := by rw [digs]; rfl
theorem digs_step {k : Nat} (h : 0 < k) : digs k = digs (k / 10) ++ [UInt8.ofNat (48 + k % 10)] := by rw [digs, dif_neg (by omega)]
theorem digs_length (k : Nat) : (digs k).length ≤ k := by
  induction k using Nat.strongRecOn with
  | ind k ih =>
    by_cases h : 0 < k
    · rw [digs_step h, List.length_append]
      have := ih (k / 10) (by omega)
      simp only [List.length_cons, List.length_nil]; omega
    · obtain rfl : k = 0 := by omega
      rw [digs_zero]; simp
theorem ret_txt {a b : ByteArray} (h : a = b) : Ending.returned (.string a) = .returned (.string b) := by rw [h]
/-- the text of mark k -/
def mtext (k : Nat) : List UInt8 := if k = 0 then [109, 48] else [109] ++ digs k
theorem mtext_length (k : Nat) : (mtext k).length ≤ k + 2 := by
  have := digs_length k
  unfold mtext
  split
  · simp
  · simp only [List.length_append, List.length_cons, List.length_nil]; omega

set_option maxHeartbeats 1000000 in
theorem markText_any (k : Nat) (hk : k ≤ 1099511627776) (w : World) : Calls Tryz.prog 32 #[.int .i64 k] w (Gives w (.string (bs (mtext k)))) := by
  by_cases h0 : k = 0
  · have HM : Hid (mtext k = [109, 48]) := by rw [Hid, mtext, if_pos h0]
    have hz : (k : Int) ≤ 0 := by omega
    clear h0
    go_enter Tryz.func32, Tryz.ntmps32
    go_wp2_with fail
    go_ret
    exact Gives.mk (ret_txt (by rw [HM.out]; rfl)) (Below.refl _ _)
  · have HM : Hid (mtext k = [109] ++ digs k) := by rw [Hid, mtext, if_neg h0]
    have hz : ¬ (k : Int) ≤ 0 := by omega
    clear h0
    have hdk := digs_length k
    go_enter Tryz.func32, Tryz.ntmps32
    go_wp2_with fail
    go_loopw [0, 3] (fun n o wr => ∃ (j : Nat) (l : List UInt8), n = .int .i64 j ∧ o = .string (bs l) ∧ l.length + j ≤ k ∧ Hid (digs k = digs j ++ l) ∧ Below w.heap.size w wr) (fun n _ _ => (intOf n).toNat)
    case atStart => exact ⟨k, [], rfl, rfl, by simp, by simp [Hid], Below.refl _ _⟩
    case round =>
      obtain ⟨j, l, rfl, rfl, hl, HX, hb⟩ := hrel
      by_cases hj : 0 < j
      · have hj' : (0 : Int) < j := by omega
        have HS := hid (digs_step hj)
        have hls := bs_size l
        obtain ⟨x, Hx⟩ : ∃ x, Hid (UInt8.ofNat (48 + j % 10) = x) := ⟨_, hid rfl⟩
        have hx : (x.toNat : Int) = 48 + (j : Int) % 10 := by rw [← Hx.out, UInt8.toNat_ofNat']; omega
        have hcv : (convert 85 9 (.slice (some ⟨wr.heap.size, 0, none⟩) 1 1)).run Tryz.prog (wr.alloc (.cells #[.int .u8 (48 + (j : Int) % 10)] 5)) = .ok (.string (bs [x])) (wr.alloc (.cells #[.int .u8 (48 + (j : Int) % 10)] 5)) :=
          run_convert_bytes_back (P := Tryz.prog) _ 85 9 5 ⟨wr.heap.size, 0, none⟩ 1 [x] Tryz.underlying85 Tryz.underlying5 Tryz.underlying9 (fun i hi => by
            obtain rfl : i = 0 := by simpa using hi
            rw [← hx]
            exact box1 _ _ _ 0)
        have hcs : (bs [x]).size = 1 := bs_size [x]
        have hov : ¬ 9223372036854775807 < (bs [x]).size + (bs l).size := by omega
        have hov2 : ¬ 9223372036854775807 < 1 + l.length := by omega
        have HS2 : Hid (digs k = digs (j / 10) ++ ([x] ++ l)) := by rw [Hid, HX.out, HS.out, Hx.out, List.append_assoc]
        have hdl : ([x] ++ l).length + j / 10 ≤ k := by simp only [List.length_append, List.length_cons, List.length_nil]; omega
        clear hx
        go_wp2_with fail
        go_roundw
        case rel => exact ⟨j / 10, [x] ++ l, by go_num, by rw [bs_append], hdl, HS2, hb.trans (((Below.refl _ _).alloc (Nat.le_refl _) _).mono hb.size)⟩
        case measure => simp [intOf]; omega
      · obtain rfl : j = 0 := by omega
        have hls := bs_size l
        have hov : ¬ 9223372036854775807 < (⟨#[109]⟩ : ByteArray).size + (bs l).size := by rw [show (⟨#[109]⟩ : ByteArray).size = 1 from rfl]; omega
        have HY : Hid (mtext k = [109] ++ l) := by rw [Hid, HM.out, HX.out, digs_zero]; rfl
        go_wp2_with fail
        go_ret
        exact Gives.mk (ret_txt (by rw [HY.out, ← bs_append]; rfl)) hb
end Go.Proofs.YtglhbaigigdeeaaGreat
/- Lists of strings: how a law measures, copies and compares them. -/
namespace Go.Proofs.YtglhbaigigdeeaaGreat
set_option maxRecDepth 100000
open Go.RowKit Go.ChangeShapes Go.WideShapes

def strSum : List ByteArray → Nat
  | [] => 0
  | s :: ss => s.size + strSum ss
def strBulk (ss : List ByteArray) : Nat := ss.length + strSum ss
theorem strSum_take : ∀ (ss : List ByteArray) (k : Nat) (hk : k < ss.length), strSum (ss.take (k + 1)) = strSum (ss.take k) + ss[k].size
  | [], k, hk => absurd hk (by simp)
  | t :: ts, 0, _ => by simp [strSum]
  | t :: ts, k + 1, hk => by
    have := strSum_take ts k (by simpa using hk)
    simp only [List.take_succ_cons, strSum, this, List.getElem_cons_succ]; omega
theorem strSum_le : ∀ (ss : List ByteArray) (k : Nat), strSum (ss.take k) ≤ strSum ss
  | [], k => by simp
  | t :: ts, 0 => by simp [strSum]
  | t :: ts, k + 1 => by
    have := strSum_le ts k
    simp only [List.take_succ_cons, strSum]; omega
theorem strSum_mem {ss : List ByteArray} {s : ByteArray} (h : s ∈ ss) : s.size ≤ strSum ss := by
  induction ss with
  | nil => cases h
  | cons a ss ih =>
    rw [strSum]
    rcases List.mem_cons.1 h with rfl | h
    · omega
    · have := ih h; omega

def MadeStr (ss : List ByteArray) (w : World) (e : Ending) (w' : World) : Prop := ∃ v F, e = .returned v ∧ D.own w' v (slOf strE ss) F ∧ (∀ x ∈ F, w.heap.size ≤ x) ∧ Below w.heap.size w w'
theorem infoStrS : (Tryz.prog.info? 9).map (fun i => (i.zero, i.size, i.bytes)) = some (some (.string ByteArray.empty), 1, 16) := by kernel_rfl
theorem strE_take (ss : List ByteArray) (k : Nat) (hk : k < ss.length) : (ss.take (k + 1)).flatMap strE = (ss.take k).flatMap strE ++ [.str ss[k]] := flat_take_succ ss k hk

/-- the value reads as the list -/
def IsSS (ss : List ByteArray) (v : Value) (w : World) : Prop := D.rd (fun _ => True) w v (slOf strE ss)
theorem IsSS.form {ss : List ByteArray} {v : Value} {w : World} (h : IsSS ss v w) : ∃ a cap, v = .slice a ss.length cap ∧ D.rd (fun _ => True) w (.slice a ss.length cap) (slOf strE ss) := by
  obtain ⟨a, cap, rfl, _, _⟩ := slOf_form h
  exact ⟨a, cap, rfl, h⟩
theorem IsSS.stable {ss : List ByteArray} {w : World} : ∀ v w1 w2, Below w.heap.size w w1 → Below w1.heap.size w1 w2 → IsSS ss v w1 → IsSS ss v w2 :=
  fun _ _ _ _ hb h => D.rd_keep (Keeps.all hb) _ _ h
theorem toList_yes {a b : ByteArray} (h : a = b) : (a.toList == b.toList) = true := by rw [h]; simp

theorem cellsStr1 : Tryz.prog.cellsOf 9 = 1 := by kernel_rfl
section
variable {H : Type} {enc' : TypeId × Value → H} {w : World}
theorem read_str : ∀ (fuel : Nat) (cs : List Value) (x : DataW H × List MemPlace), DataW.trod enc' Tryz.prog w 0 (fun _ => true) true fuel 9 cs = some x → ∃ s : ByteArray, CellsRd (fun _ => True) w cs (strE s) := by
  intro fuel cs x h
  obtain ⟨s, hs, -, hsz⟩ := DataW.trod_string Tryz.underlying9 h
  subst hs
  exact ⟨s, D.rd_str hsz, trivial⟩
theorem open_StringS {r : Reach} {b0 : Nat} {v : Value} {d : DataW H} {p : List MemPlace} (hv : Value.okWide Tryz.prog w r b0 119 v) (h : DataW.Trod enc' Tryz.prog w 0 (fun _ => true) true 119 v d p) :
    ∃ ss, D.rd (fun _ => True) w v (slOf strE ss) := by
  obtain ⟨a, len, cap, rfl⟩ := okWide_slice Tryz.underlying119 hv
  obtain ⟨fuel, hf⟩ := h
  obtain ⟨u, ss, hu, hr⟩ := open_slOf strE_wide (by decide) Tryz.underlying119 cellsStr1 (fun m cs' x' _ hx => read_str m cs' x' hx) hf
  obtain rfl : Value.slice a len cap = u := by simpa [Value.cells] using hu
  exact ⟨ss, hr⟩
end
end Go.Proofs.YtglhbaigigdeeaaGreat
/- Lists of ints: how a law measures, copies and compares them. -/
namespace Go.Proofs.YtglhbaigigdeeaaGreat
set_option maxRecDepth 100000
open Go.RowKit Go.ChangeShapes Go.WideShapes

def intE (z : Int) : List D := [.num z]
theorem intE_wide : Wide intE 1 := fun _ => rfl
def IsI64 (z : Int) : Prop := -9223372036854775808 ≤ z ∧ z ≤ 9223372036854775807
theorem D.own_num {w : World} {z : Int} (h : IsI64 z) : D.own w (.int .i64 z) (.num z) [] := by rw [D.own]; exact ⟨rfl, h.1, h.2, rfl⟩
theorem D.rd_num {S : Nat → Prop} {w : World} {z : Int} (h : IsI64 z) : D.rd S w (.int .i64 z) (.num z) := by rw [D.rd]; exact ⟨rfl, h.1, h.2⟩
theorem ints_get {S : Nat → Prop} {w : World} {a : Option Addr} {n cap : Nat} {ss : List Int} (h : D.rd S w (.slice a n cap) (slOf intE ss)) (hne : ss ≠ []) : ∃ b off, a = some ⟨b, off, none⟩ ∧ S b ∧ b < w.heap.size ∧
    ∀ k (hk : k < ss.length), w.cell? ⟨b, off + k, none⟩ = some (.int .i64 ss[k]) ∧ IsI64 ss[k] := by
  obtain ⟨b, off, h0, h1, h2, h3⟩ := slOf_get intE_wide (by decide) h hne
  refine ⟨b, off, h0, h1, h2, fun k hk => ?_⟩
  obtain ⟨v, q0, q1⟩ := h3 k hk 0 (.num ss[k]) rfl
  rw [D.rd] at q1
  obtain ⟨rfl, q2⟩ := q1
  rw [Nat.mul_one, Nat.add_zero] at q0
  exact ⟨q0, q2⟩


def MadeInt (ss : List Int) (w : World) (e : Ending) (w' : World) : Prop := ∃ v F, e = .returned v ∧ D.own w' v (slOf intE ss) F ∧ (∀ x ∈ F, w.heap.size ≤ x) ∧ Below w.heap.size w w'
theorem infoIntS : (Tryz.prog.info? 3).map (fun i => (i.zero, i.size, i.bytes)) = some (some (.int .i64 0), 1, 8) := by kernel_rfl
theorem intE_take (ss : List Int) (k : Nat) (hk : k < ss.length) : (ss.take (k + 1)).flatMap intE = (ss.take k).flatMap intE ++ [.num ss[k]] := flat_take_succ ss k hk


/-- the value reads as the list -/
def IsIS (ss : List Int) (v : Value) (w : World) : Prop := D.rd (fun _ => True) w v (slOf intE ss)
theorem IsIS.form {ss : List Int} {v : Value} {w : World} (h : IsIS ss v w) : ∃ a cap, v = .slice a ss.length cap ∧ D.rd (fun _ => True) w (.slice a ss.length cap) (slOf intE ss) := by
  obtain ⟨a, cap, rfl, _, _⟩ := slOf_form h
  exact ⟨a, cap, rfl, h⟩
theorem IsIS.stable {ss : List Int} {w : World} : ∀ v w1 w2, Below w.heap.size w w1 → Below w1.heap.size w1 w2 → IsIS ss v w1 → IsIS ss v w2 :=
  fun _ _ _ _ hb h => D.rd_keep (Keeps.all hb) _ _ h

theorem cellsInt1 : Tryz.prog.cellsOf 3 = 1 := by kernel_rfl
section
variable {H : Type} {enc' : TypeId × Value → H} {w : World}
theorem read_int : ∀ (fuel : Nat) (cs : List Value) (x : DataW H × List MemPlace), DataW.trod enc' Tryz.prog w 0 (fun _ => true) true fuel 3 cs = some x → ∃ z : Int, CellsRd (fun _ => True) w cs (intE z) := by
  intro fuel cs x h
  obtain ⟨z, hz, -, hw⟩ := DataW.trod_int Tryz.underlying3 h
  subst hz
  exact ⟨z, D.rd_num (bounds_i64 hw), trivial⟩
end
end Go.Proofs.YtglhbaigigdeeaaGreat
/- Data that a call owns are marked: lists of ints, lists of strings. -/
namespace Go.Proofs.YtglhbaigigdeeaaGreat
set_option maxRecDepth 100000
open Go.RowKit

/-- only blocks of F are changed, and new ones laid -/
def Mk (F : List Nat) (w w' : World) : Prop := Keeps (· ∉ F) w w' ∧ ∀ B, B ≤ w.heap.size → (∀ x ∈ F, B ≤ x) → Below B w w'
theorem Mk.refl (F : List Nat) (w : World) : Mk F w w := ⟨Keeps.refl _ _, fun _ _ _ => Below.refl _ _⟩
theorem Mk.size {F : List Nat} {w w' : World} (h : Mk F w w') : w.heap.size ≤ w'.heap.size := h.1.size
theorem Mk.trans {F : List Nat} {a b c : World} (h : Mk F a b) (k : Mk F b c) : Mk F a c :=
  ⟨h.1.trans k.1, fun B hB hF => (h.2 B hB hF).trans (k.2 B (Nat.le_trans hB h.size) hF)⟩
theorem Mk.of_below {F : List Nat} {w w' : World} (h : Below w.heap.size w w') : Mk F w w' := ⟨Keeps.all h, fun _ hB _ => h.mono hB⟩
theorem Mk.mono {F G : List Nat} {w w' : World} (h : Mk F w w') (hs : ∀ x ∈ F, x ∈ G) : Mk G w w' := ⟨h.1.mono fun b hb q => hb (hs b q), fun B hB hG => h.2 B hB fun x hx => hG x (hs x hx)⟩
theorem Mk.set {F : List Nat} {w : World} {b p : Nat} (hb : b ∈ F) (u : Value) : Mk F w (w.setCell ⟨b, p, none⟩ u) :=
  ⟨(Keeps.refl _ _).setCell (fun q _ => q hb) _, fun _ _ hF => (Below.refl _ _).setCell (p := ⟨b, p, none⟩) (hF b hb) u⟩

def mixI (zs : List Int) (k : Nat) : Nat → List Int
  | 0 => zs
  | j + 1 => (mixI zs k j).set j ((k + j : Nat) : Int)
theorem mixI_length (zs : List Int) (k : Nat) : ∀ j, (mixI zs k j).length = zs.length
  | 0 => rfl
  | j + 1 => by rw [mixI, List.length_set, mixI_length zs k j]
theorem mixI_get (zs : List Int) (k : Nat) : ∀ j i (h : i < (mixI zs k j).length), i < j → (mixI zs k j)[i] = ((k + i : Nat) : Int)
  | 0, i, h, hi => absurd hi (by omega)
  | j + 1, i, h, hi => by
    simp only [mixI, List.getElem_set]
    split
    · rename_i e; subst e; rfl
    · exact mixI_get zs k j i (by simpa [mixI] using h) (by omega)
theorem flat_set_int (l : List Int) (j : Nat) (z : Int) : (l.flatMap intE).set j (.num z) = (l.set j z).flatMap intE := by
  have e : ∀ l : List Int, l.flatMap intE = l.map D.num := by intro l; induction l with
    | nil => rfl
    | cons x l ih => rw [List.flatMap_cons, ih]; rfl
  rw [e, e, List.map_set]



def mixS (zs : List ByteArray) (k : Nat) : Nat → List ByteArray
  | 0 => zs
  | j + 1 => (mixS zs k j).set j (bs (mtext (k + j)))
theorem mixS_length (zs : List ByteArray) (k : Nat) : ∀ j, (mixS zs k j).length = zs.length
  | 0 => rfl
  | j + 1 => by rw [mixS, List.length_set, mixS_length zs k j]
theorem mixS_get (zs : List ByteArray) (k : Nat) : ∀ j i (h : i < (mixS zs k j).length), i < j → (mixS zs k j)[i] = bs (mtext (k + i))
  | 0, i, h, hi => absurd hi (by omega)
  | j + 1, i, h, hi => by
    simp only [mixS, List.getElem_set]
    split
    · rename_i e; subst e; rfl
    · exact mixS_get zs k j i (by simpa [mixS] using h) (by omega)
theorem flat_set_str (l : List ByteArray) (j : Nat) (z : ByteArray) : (l.flatMap strE).set j (.str z) = (l.set j z).flatMap strE := by
  have e : ∀ l : List ByteArray, l.flatMap strE = l.map D.str := by intro l; induction l with
    | nil => rfl
    | cons x l ih => rw [List.flatMap_cons, ih]; rfl
  rw [e, e, List.map_set]


end Go.Proofs.YtglhbaigigdeeaaGreat
/- What a law that marks its arguments and its results carries along. -/
namespace Go.Proofs.YtglhbaigigdeeaaGreat
set_option maxRecDepth 100000
open Go.RowKit

theorem D.rd_lt {S : Nat → Prop} {w : World} : ∀ (d : D) (v : Value), D.rd S w v d → D.rd (· < w.heap.size) w v d := by
  refine D.ind (fun s v h => by rw [D.rd] at h ⊢; exact h) (fun n v h => by rw [D.rd] at h ⊢; exact h) (fun b v h => by rw [D.rd] at h ⊢; exact h) (fun n cs ih v h => ?_)
  rw [D.rd] at h ⊢
  obtain ⟨a, cap, h0, h1, h2, h3, h4⟩ := h
  refine ⟨a, cap, h0, h1, h2, h3, fun hne => ?_⟩
  obtain ⟨b, off, q0, q1, q2, q3⟩ := h4 hne
  refine ⟨b, off, q0, q2, q2, (D.rds_iff _ _).2 fun i hi => ?_⟩
  obtain ⟨v, r0, r1⟩ := (D.rds_iff _ _).1 q3 i hi
  exact ⟨v, r0, ih _ (List.getElem_mem hi) _ r1⟩
theorem D.rd_all {S : Nat → Prop} {w : World} {d : D} {v : Value} (h : D.rd S w v d) : D.rd (fun _ => True) w v d := D.rd_mono (fun _ _ => trivial) _ _ h
theorem Mk.lt {F : List Nat} {w w' : World} {U : Nat} (h : Mk F w w') (hF : ∀ x ∈ F, U ≤ x) : Keeps (· < U) w w' := h.1.mono fun b hb q => by have := hF b q; omega
theorem Mk.apart {F G : List Nat} {w w' : World} (h : Mk F w w') (hd : ∀ x ∈ G, x ∉ F) : Keeps (· ∈ G) w w' := h.1.mono hd
theorem Box.marked {w w' : World} {b : Nat} {cs : List Value} {F : List Nat} (h : Box w b cs) (hm : Mk F w w') (hb : b ∉ F) : Box w' b cs :=
  ⟨Nat.lt_of_lt_of_le h.lt hm.size, fun i hi => (hm.1.cell hb h.lt).trans (h.cell i hi)⟩

/-- a result that the call owns, and a bool -/
def OutD (mk : Value → Value) (d : D) (ok : Bool) (w : World) (e : Ending) (w' : World) : Prop := ∃ v F, e = .returned (.tuple #[mk v, .bool ok]) ∧ D.own w' v d F ∧ (∀ x ∈ F, w.heap.size ≤ x) ∧ Below w.heap.size w w'
/-- a result that reads, and a bool -/
def RdD (mk : Value → Value) (d : D) (ok : Bool) (w : World) (e : Ending) (w' : World) : Prop := ∃ v, e = .returned (.tuple #[mk v, .bool ok]) ∧ D.rd (fun _ => True) w' v d ∧ Below w.heap.size w w'
theorem OutD.rd {mk : Value → Value} {d : D} {ok : Bool} {w : World} {e : Ending} {w' : World} (h : OutD mk d ok w e w') : RdD mk d ok w e w' := by
  obtain ⟨v, F, he, ho, _, hb⟩ := h
  exact ⟨v, he, D.rd_all (D.own_rd _ _ _ ho), hb⟩
theorem Tm.at_lt {S : Nat → Prop} {w : World} {c0 c1 : Value} {t : Tm} (h : Tm.at S w c0 c1 t) : Tm.at (· < w.heap.size) w c0 c1 t := ⟨D.rd_lt _ _ h.1, D.rd_lt _ _ h.2⟩
theorem Tm.at_all {S : Nat → Prop} {w : World} {c0 c1 : Value} {t : Tm} (h : Tm.at S w c0 c1 t) : Tm.at (fun _ => True) w c0 c1 t := ⟨D.rd_all h.1, D.rd_all h.2⟩
theorem Tm.at_of {w : World} {t : Tm} {v : Value} {F : List Nat} (hn : t.name.size ≤ maxLen) (h : D.own w v (Tm.sd t.args) F) : Tm.at (fun _ => True) w (.string t.name) v t := ⟨D.rd_str hn, D.rd_all (D.own_rd _ _ _ h)⟩
theorem Tm.sizes_le_bulk (t : Tm) : Tm.sizes t.args ≤ t.bulk := by
  have h := Tm.size_bulk t
  have : t.size = 1 + Tm.sizes t.args := by cases t; rw [Tm.size]; rfl
  omega
theorem Tm.name_le {t : Tm} (h : t.bulk ≤ 1048576) : t.name.size ≤ maxLen := by
  cases t
  rw [Tm.bulk] at h
  unfold maxLen
  show _ ≤ 9223372036854775807
  simp only [Tm.name]
  omega
/-- the value reads as the datum -/
def RdV (d : D) (v : Value) (w : World) : Prop := D.rd (fun _ => True) w v d
def IsTup (P : Value → World → Prop) (ok : Bool) (v : Value) (w : World) : Prop := ∃ v', v = .tuple #[v', .bool ok] ∧ P v' w
theorem RdV.stable {d : D} {w : World} : ∀ v w1 w2, Below w.heap.size w w1 → Below w1.heap.size w1 w2 → RdV d v w1 → RdV d v w2 := fun _ _ _ _ hb h => D.rd_keep (Keeps.all hb) _ _ h
theorem IsTup.stable {d : D} {ok : Bool} {w : World} : ∀ v w1 w2, Below w.heap.size w w1 → Below w1.heap.size w1 w2 → IsTup (RdV d) ok v w1 → IsTup (RdV d) ok v w2 :=
  fun _ _ _ h hb ⟨v', e, g⟩ => ⟨v', e, RdV.stable _ _ _ h hb g⟩
theorem RdD.yields {d : D} {ok : Bool} {w : World} {e : Ending} {w' : World} (h : RdD id d ok w e w') : After (Both (fun a b => Below a.heap.size a b) (IsTup (RdV d) ok) w) e w' := by
  obtain ⟨v, rfl, hr, hb⟩ := h
  exact ⟨_, rfl, hb, v, rfl, hr⟩
end Go.Proofs.YtglhbaigigdeeaaGreat
/- Lists of names: a name is put into its place; the names of variables of a term. Plain. -/
namespace Go.Proofs.YtglhbaigigdeeaaGreat
set_option maxRecDepth 100000
open Go.RowKit

/-- a name is put into an ascending list, unless it is there -/
def putStr : List ByteArray → ByteArray → List ByteArray
  | [], s => [s]
  | x :: l, s => if Op.bytesLess x.toList s.toList = true then x :: putStr l s else if x = s then x :: l else s :: x :: l

theorem putStr_mem (l : List ByteArray) (s m : ByteArray) : m ∈ putStr l s ↔ m = s ∨ m ∈ l := by
  induction l with
  | nil => simp [putStr]
  | cons x l ih =>
    rw [putStr]
    split
    · simp only [List.mem_cons, ih]
      constructor
      · rintro (h | h | h)
        · exact .inr (.inl h)
        · exact .inl h
        · exact .inr (.inr h)
      · rintro (h | h | h)
        · exact .inr (.inl h)
        · exact .inl h
        · exact .inr (.inr h)
    · split
      · rename_i h; subst h; simp
      · simp
theorem putStr_length (l : List ByteArray) (s : ByteArray) : (putStr l s).length ≤ l.length + 1 := by
  induction l with
  | nil => simp [putStr]
  | cons x l ih =>
    rw [putStr]
    split
    · simp; omega
    · split <;> simp
theorem putStr_there {l : List ByteArray} {s : ByteArray} {i : Nat} (hi : i < l.length) (hlt : ∀ j (h : j < i), Op.bytesLess (l[j]'(by omega)).toList s.toList = true) (hge : Op.bytesLess l[i].toList s.toList = false) (he : l[i] = s) : putStr l s = l := by
  induction l generalizing i with
  | nil => exact absurd hi (by simp)
  | cons x l ih =>
    cases i with
    | zero =>
      have hge' : Op.bytesLess x.toList s.toList = false := hge
      have he' : x = s := he
      rw [putStr, if_neg (by rw [hge']; simp), if_pos he']
    | succ i =>
      have h0 : Op.bytesLess x.toList s.toList = true := hlt 0 (by omega)
      rw [putStr, if_pos h0, ih (by simpa using hi) (fun j h => hlt (j + 1) (by omega)) hge he]
theorem putStr_new {l : List ByteArray} {s : ByteArray} {i : Nat} (hi : i ≤ l.length) (hlt : ∀ j (h : j < i), Op.bytesLess (l[j]'(by omega)).toList s.toList = true) (hge : ∀ h : i < l.length, Op.bytesLess l[i].toList s.toList = false ∧ l[i] ≠ s) : putStr l s = l.take i ++ [s] ++ l.drop i := by
  induction l generalizing i with
  | nil => simp [putStr]
  | cons x l ih =>
    cases i with
    | zero =>
      obtain ⟨h1, h2⟩ := hge (by simp)
      have h1' : Op.bytesLess x.toList s.toList = false := h1
      have h2' : x ≠ s := h2
      rw [putStr, if_neg (by rw [h1']; simp), if_neg h2']; simp
    | succ i =>
      have h0 : Op.bytesLess x.toList s.toList = true := hlt 0 (by omega)
      rw [putStr, if_pos h0, ih (by simpa using hi) (fun j h => hlt (j + 1) (by omega)) (fun h => hge (by simpa using h))]
      simp

mutual
/-- the names of a term's variables are put into a list -/
def Tm.into : Tm → List ByteArray → List ByteArray
  | .node n ts, l => if varName n = true then putStr l n else Tm.intos ts l
def Tm.intos : List Tm → List ByteArray → List ByteArray
  | [], l => l
  | t :: ts, l => Tm.intos ts (Tm.into t l)
end
mutual
/-- does the variable occur? -/
def Tm.hasVar (m : ByteArray) : Tm → Prop
  | .node n ts => if varName n = true then n = m else Tm.haveVar m ts
def Tm.haveVar (m : ByteArray) : List Tm → Prop
  | [] => False
  | t :: ts => Tm.hasVar m t ∨ Tm.haveVar m ts
end
theorem Tm.intos_take (ts : List Tm) (l : List ByteArray) (k : Nat) (hk : k < ts.length) : Tm.intos (ts.take (k + 1)) l = Tm.into ts[k] (Tm.intos (ts.take k) l) := by
  induction ts generalizing l k with
  | nil => exact absurd hk (by simp)
  | cons t ts ih =>
    cases k with
    | zero => simp [Tm.intos]
    | succ k => simpa [Tm.intos] using ih (Tm.into t l) k (by simpa using hk)
theorem Tm.into_mem (m : ByteArray) (t : Tm) : ∀ l, m ∈ Tm.into t l ↔ m ∈ l ∨ Tm.hasVar m t := by
  refine Tm.ind (P := fun t => ∀ l, m ∈ Tm.into t l ↔ m ∈ l ∨ Tm.hasVar m t) (fun n ts ih l => ?_) t
  rw [Tm.into, Tm.hasVar]
  split
  · rw [putStr_mem, or_comm, @eq_comm _ m n]
  · have key : ∀ ts : List Tm, (∀ a ∈ ts, ∀ l, m ∈ Tm.into a l ↔ m ∈ l ∨ Tm.hasVar m a) → ∀ l, m ∈ Tm.intos ts l ↔ m ∈ l ∨ Tm.haveVar m ts := by
      intro ts
      induction ts with
      | nil => intro _ l; simp [Tm.intos, Tm.haveVar]
      | cons t ts iht =>
        intro h l
        rw [Tm.intos, Tm.haveVar, iht (fun a ha => h a (by simp [ha])), h t (by simp), or_assoc]
    exact key ts ih l
theorem Tm.into_length (t : Tm) : ∀ l, (Tm.into t l).length ≤ l.length + t.size := by
  refine Tm.ind (P := fun t => ∀ l, (Tm.into t l).length ≤ l.length + t.size) (fun n ts ih l => ?_) t
  rw [Tm.into, Tm.size]
  split
  · have := putStr_length l n; omega
  · have key : ∀ ts : List Tm, (∀ a ∈ ts, ∀ l, (Tm.into a l).length ≤ l.length + a.size) → ∀ l, (Tm.intos ts l).length ≤ l.length + Tm.sizes ts := by
      intro ts
      induction ts with
      | nil => intro _ l; simp [Tm.intos]
      | cons t ts iht =>
        intro h l
        have h0 := h t (by simp) l
        have h1 := iht (fun a ha => h a (by simp [ha])) (Tm.into t l)
        rw [Tm.intos, Tm.sizes]; omega
    have := key ts ih l
    omega
theorem Tm.intos_length (ts : List Tm) : ∀ l, (Tm.intos ts l).length ≤ l.length + Tm.sizes ts := by
  induction ts with
  | nil => intro l; simp [Tm.intos]
  | cons t ts iht =>
    intro l
    have h0 := Tm.into_length t l
    have h1 := iht (Tm.into t l)
    rw [Tm.intos, Tm.sizes]; omega
end Go.Proofs.YtglhbaigigdeeaaGreat
/- Variables have no arguments. -/
namespace Go.Proofs.YtglhbaigigdeeaaGreat
set_option maxRecDepth 100000

mutual
/-- variables have no arguments -/
def Tm.leafy : Tm → Prop
  | .node n ts => (varName n = true → ts = []) ∧ Tm.leafies ts
def Tm.leafies : List Tm → Prop
  | [] => True
  | t :: ts => Tm.leafy t ∧ Tm.leafies ts
end
theorem Tm.leafies_iff (ts : List Tm) : Tm.leafies ts ↔ ∀ t ∈ ts, t.leafy := by
  induction ts with
  | nil => simp [Tm.leafies]
  | cons t ts ih => simp [Tm.leafies, ih]
theorem Tm.names_leafy (t : Tm) : t.names = true → t.leafy := by
  refine Tm.ind (P := fun t => t.names = true → t.leafy) (fun n ts ih h => ?_) t
  rw [Tm.names] at h
  rw [Tm.leafy, Tm.leafies_iff]
  split at h
  · have : ts = [] := by simpa using h
    subst this
    exact ⟨fun _ => rfl, by simp⟩
  · rename_i hv
    simp only [Bool.and_eq_true] at h
    exact ⟨fun h => absurd h hv, fun a ha => ih a ha ((Tm.namesAll_iff ts).1 h.2 a ha)⟩
theorem Tm.atom_leafy {t : Tm} (h : t.atom = true) : t.leafy := by
  cases t with
  | node n ts =>
    rw [Tm.atom] at h
    by_cases he : n = eqSign
    · subst he
      rw [if_pos rfl] at h
      simp only [Bool.and_eq_true] at h
      rw [Tm.leafy, Tm.leafies_iff]
      exact ⟨fun q => (by rw [show varName eqSign = false by decide +kernel] at q; cases q), fun a ha => Tm.names_leafy a ((Tm.namesAll_iff ts).1 h.2 a ha)⟩
    · rw [if_neg he, Bool.and_eq_true, Tm.valid, Bool.and_eq_true] at h
      exact Tm.names_leafy _ h.2.2
theorem Tm.expr_leafy {t : Tm} (h : t.expr = true) : t.leafy := by
  rw [Tm.expr, Bool.or_eq_true] at h
  rcases h with h | h
  · rw [Tm.valid, Bool.and_eq_true] at h
    exact Tm.names_leafy t h.2
  · exact Tm.atom_leafy h
end Go.Proofs.YtglhbaigigdeeaaGreat
