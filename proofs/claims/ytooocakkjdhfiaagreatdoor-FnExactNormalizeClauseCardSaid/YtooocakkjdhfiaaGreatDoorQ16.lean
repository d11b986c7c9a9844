/- Several texts in one file. -/
import Derived.Test.YtooocakkjdhfiaaGreatDoorQ09
import Derived.Test.YtooocakkjdhfiaaGreatDoorQ06
import Derived.Test.YtooocakkjdhfiaaGreatDoorQ02
import Derived.Test.YtooocakkjdhfiaaGreatDoorShelf
import Derived.WalkSpells
import Derived.WalkLawsBesides
import Derived.Laws.Concat
import Derived.Test.YtooocakkjdhfiaaGreatDoorQ11
import Derived.Test.YtooocakkjdhfiaaGreatDoorQ13
import Derived.Shelf.SlSortCmp.NoneTotal
import Derived.Test.YtooocakkjdhfiaaGreatDoorSortL
/- Numbers and their texts: the reference's and the program's. -/
namespace Go.Proofs.YtooocakkjdhfiaaGreatDoor
set_option maxRecDepth 100000
open Go Go.RowKit

def itoaB (n : Int) : ByteArray := ⟨(Lib.itoa n).toArray⟩
def decB (u : Nat) : ByteArray := ⟨(Lib.decDigits u).toArray⟩
theorem decB_small {u : Nat} (h : u < 10) : decB u = ⟨#[UInt8.ofNat (48 + u)]⟩ := by rw [decB, Lib.decDigits, dif_pos h]
theorem decB_big {u : Nat} (h : ¬ u < 10) : decB u = decB (u / 10) ++ ⟨#[UInt8.ofNat (48 + u % 10)]⟩ := by
  rw [decB, Lib.decDigits, dif_neg h, decB, ByteArray.mk_append_mk]
theorem decB_size {u k : Nat} (h : u < 10 ^ (k + 1)) : (decB u).size ≤ k + 1 := by
  show (Lib.decDigits u).toArray.size ≤ _
  rw [List.size_toArray, Lib.decDigits_length]; exact nDigits_le k u h
theorem digit_piece : ∀ d : Nat, d < 10 → (⟨#[48, 49, 50, 51, 52, 53, 54, 55, 56, 57]⟩ : ByteArray).extract d (d + 1) = ⟨#[UInt8.ofNat (48 + d)]⟩ := by decide +kernel
def NumIs (u : Nat) : Prop := ∀ w : World, Calls Tryz.prog 32 #[.int .i64 (u : Int)] w (Gives w (.string (decB u)))
set_option maxHeartbeats 1000000 in
theorem l1Num_nat (u : Nat) (hu : u ≤ 999999) : NumIs u := by
  induction u using Nat.strongRecOn with
  | _ u ih =>
    intro w
    have h0 : ¬ (u : Int) < 0 := by omega
    by_cases h : u < 10
    · have HE : Hid ((⟨#[48, 49, 50, 51, 52, 53, 54, 55, 56, 57]⟩ : ByteArray).extract u (u + 1) = decB u) := by rw [Hid, digit_piece u h, decB_small h]
      have h1 : (u : Int) < 10 := by omega
      go_enter Tryz.func32, Tryz.ntmps32
      go_wp2_with fail
      go_ret
      exact Gives.mk (by rw [← HE.out]; rfl) (Below.refl _ _)
    · obtain ⟨d, Hd⟩ : ∃ d, Hid (u % 10 = d) := ⟨_, hid rfl⟩
      obtain ⟨q, Hq⟩ : ∃ q, Hid (u / 10 = q) := ⟨_, hid rfl⟩
      have hd10 : d < 10 := by have := Hd.out; omega
      have HE : Hid (decB u = decB q ++ (⟨#[48, 49, 50, 51, 52, 53, 54, 55, 56, 57]⟩ : ByteArray).extract d (d + 1)) := by rw [Hid, digit_piece _ hd10, ← Hd.out, ← Hq.out]; exact decB_big h
      have h1 : ¬ (u : Int) < 10 := by omega
      have hz := decB_size (u := q) (k := 5) (by have := Hq.out; omega)
      have hq := ih q (by have := Hq.out; omega) (by have := Hq.out; omega)
      have hr : ((u : Int)).tmod 10 = (d : Int) := by rw [Int.tmod_eq_emod_of_nonneg (by omega)]; have := Hd.out; omega
      have g1 : (d : Int) + 1 ≤ 10 := by omega
      have g0 : (0 : Int) ≤ (d : Int) + 1 := by omega
      have g2 : (d : Int) ≤ (d : Int) + 1 := by omega
      have g3 : ((d : Int) + 1).toNat = d + 1 := by omega
      have g4 : ¬ 9223372036854775807 < (decB q).size + (min (d + 1) 10 - d) := by omega
      go_enter Tryz.func32, Tryz.ntmps32
      go_wp2_with fail
      refine wp_region_B [fun v _ => v = .int .i64 u, fun v _ => v = .int .i64 q, fun v _ => v = .string (decB q), fun v _ => v = .int .i64 u, fun v _ => v = .int .i64 d, fun v _ => v = .int .i64 u, fun v _ => v = .int .i64 d, fun v _ => v = .int .i64 (d + 1), fun v _ => v = .string ((⟨#[48, 49, 50, 51, 52, 53, 54, 55, 56, 57]⟩ : ByteArray).extract d (d + 1)), fun v _ => v = .string (decB u), fun v _ => v = .string (decB u)] _ (fun V => by simp [putAll, Act.put]; rfl) (by kernel_rfl) (by decide) (by simp) (by kernel_rfl) ?_ ?_ ?_
      · intro F hF
        simp only [List.mem_cons, List.not_mem_nil, or_false] at hF
        rcases hF with rfl | rfl | rfl | rfl | rfl | rfl | rfl | rfl | rfl | rfl | rfl
        · exact stable_eq
        · exact stable_eq
        · exact stable_eq
        · exact stable_eq
        · exact stable_eq
        · exact stable_eq
        · exact stable_eq
        · exact stable_eq
        · exact stable_eq
        · exact stable_eq
        · exact stable_eq
      · refine ⟨?_, ?_, ?_, ?_, ?_, ?_, ?_, ?_, ?_, ?_, ?_, trivial⟩
        · intro V w1 hbR _
          unfold Does
          go_simp
          exact ⟨Below.refl _ _, rfl⟩
        · intro V w1 hbR ⟨f0, _⟩
          replace f0 : V 0 = .int .i64 u := f0
          unfold Does
          go_simp
          exact ⟨Below.refl _ _, by have := Hq.out; congr 1; rw [IntKind.wrap_i64]; omega⟩
        · intro V w1 hbR ⟨f1, _⟩
          replace f1 : V 1 = .int .i64 q := f1
          obtain ⟨hc, hf⟩ := bcell hbR
          try simp only [World.size_alloc, World.size_setCell] at hc hf
          unfold Does
          go_simp
          exact hq _
        · intro V w1 hbR _
          unfold Does
          go_simp
          exact ⟨Below.refl _ _, rfl⟩
        · intro V w1 hbR ⟨f3, _⟩
          replace f3 : V 3 = .int .i64 u := f3
          unfold Does
          go_simp
          exact ⟨Below.refl _ _, by first | rfl | rw [hr]⟩
        · intro V w1 hbR _
          unfold Does
          go_simp
          exact ⟨Below.refl _ _, rfl⟩
        · intro V w1 hbR ⟨f5, _⟩
          replace f5 : V 5 = .int .i64 u := f5
          unfold Does
          go_simp
          exact ⟨Below.refl _ _, by first | rfl | rw [hr]⟩
        · intro V w1 hbR ⟨f6, _⟩
          replace f6 : V 6 = .int .i64 d := f6
          unfold Does
          go_simp
          exact ⟨Below.refl _ _, by congr 1; rw [IntKind.wrap_i64]; omega⟩
        · intro V w1 hbR ⟨f4, f7, _⟩
          replace f4 : V 4 = .int .i64 d := f4
          replace f7 : V 7 = .int .i64 (d + 1) := f7
          unfold Does
          go_simp
          exact ⟨Below.refl _ _, rfl⟩
        · intro V w1 hbR ⟨f2, f8, _⟩
          replace f2 : V 2 = .string (decB q) := f2
          replace f8 : V 8 = .string ((⟨#[48, 49, 50, 51, 52, 53, 54, 55, 56, 57]⟩ : ByteArray).extract d (d + 1)) := f8
          unfold Does
          go_simp
          exact ⟨Below.refl _ _, by rw [HE.out]⟩
        · intro V w1 hbR ⟨f9, f2, f0, f1, _, f3, f4, f5, f6, f7, f8, _, _⟩
          replace f0 : V 0 = .int .i64 u := f0
          replace f1 : V 1 = .int .i64 q := f1
          replace f2 : V 2 = .string (decB q) := f2
          replace f3 : V 3 = .int .i64 u := f3
          replace f4 : V 4 = .int .i64 d := f4
          replace f5 : V 5 = .int .i64 u := f5
          replace f6 : V 6 = .int .i64 d := f6
          replace f7 : V 7 = .int .i64 (d + 1) := f7
          replace f8 : V 8 = .string ((⟨#[48, 49, 50, 51, 52, 53, 54, 55, 56, 57]⟩ : ByteArray).extract d (d + 1)) := f8
          replace f9 : V 9 = .string (decB u) := f9
          unfold Does
          go_simp
          exact ⟨Below.refl _ _, rfl⟩
      intro V w1 hbR hfR
      obtain ⟨f0, f1, f2, f3, f4, f5, f6, f7, f8, f9, f10, _⟩ := hfR
      replace f0 : V 0 = .int .i64 u := f0
      replace f1 : V 1 = .int .i64 q := f1
      replace f2 : V 2 = .string (decB q) := f2
      replace f3 : V 3 = .int .i64 u := f3
      replace f4 : V 4 = .int .i64 d := f4
      replace f5 : V 5 = .int .i64 u := f5
      replace f6 : V 6 = .int .i64 d := f6
      replace f7 : V 7 = .int .i64 (d + 1) := f7
      replace f8 : V 8 = .string ((⟨#[48, 49, 50, 51, 52, 53, 54, 55, 56, 57]⟩ : ByteArray).extract d (d + 1)) := f8
      replace f9 : V 9 = .string (decB u) := f9
      replace f10 : V 10 = .string (decB u) := f10
      simp only [f0, f1, f2, f3, f4, f5, f6, f7, f8, f9, f10]
      clear f0 f1 f2 f3 f4 f5 f6 f7 f8 f9 f10
      go_wp2_with fail
      go_ret
      exact Gives.mk rfl hbR
theorem itoaB_nat (u : Nat) : itoaB (u : Int) = decB u := by unfold itoaB decB; rw [Lib.itoa_nonneg]
theorem itoaB_neg {n : Int} (h : n < 0) : itoaB n = ⟨#[45]⟩ ++ decB n.natAbs := by
  unfold itoaB decB
  rw [ByteArray.mk_append_mk, Lib.itoa, if_pos h]
  simp
theorem itoaB_size {n : Int} (h0 : -999999 ≤ n) (h1 : n ≤ 999999) : 1 ≤ (itoaB n).size ∧ (itoaB n).size ≤ 7 := by
  have := itoa_len h0 h1
  show 1 ≤ (Lib.itoa n).toArray.size ∧ (Lib.itoa n).toArray.size ≤ 7
  rw [List.size_toArray]; exact this
set_option maxHeartbeats 1000000 in
theorem l1Num_any (n : Int) (h0 : -999999 ≤ n) (h1 : n ≤ 999999) (w : World) : Calls Tryz.prog 32 #[.int .i64 n] w (Gives w (.string (itoaB n))) := by
  by_cases h : n < 0
  · have HE := hid (itoaB_neg h)
    have hz := decB_size (u := n.natAbs) (k := 5) (by omega)
    have hq := l1Num_nat n.natAbs (by omega)
    have g4 : ¬ 9223372036854775807 < 1 + (decB n.natAbs).size := by omega
    have hw : IntKind.i64.wrap (-n) = (n.natAbs : Int) := by rw [IntKind.wrap_i64]; omega
    go_enter Tryz.func32, Tryz.ntmps32
    go_wp2_with fail
    refine (hq _).mono ?_
    rintro e w1 ⟨_, rfl, hb, rfl⟩
    go_wp2_with fail
    go_ret
    exact Gives.mk (by rw [HE.out]; rfl) hb
  · obtain ⟨u, rfl⟩ : ∃ u : Nat, n = u := ⟨n.toNat, by omega⟩
    rw [itoaB_nat]
    exact l1Num_nat u (by omega) w

/-- FormatInt -/
def fmtOk (n : Int) : Bool := inB n (-999999) 999999
def fmtR (n : Int) : ByteArray := if fmtOk n = true then itoaB n else ByteArray.empty
theorem fmtOk_in {n : Int} (h : fmtOk n = true) : -999999 ≤ n ∧ n ≤ 999999 := by simpa [fmtOk, inB] using h
theorem grow_below {w : World} {k : Nat} {os : Array Obj} : Below w.heap.size w (Sort.grow (w.drewN k) os) :=
  ⟨rfl, rfl, rfl, by show w.heap.size ≤ (w.heap ++ os).size; simp, fun i hi => by show (w.heap ++ os)[i]? = _; exact Array.getElem?_append_left hi⟩
theorem itoa_any {n : Int} (h0 : -999999 ≤ n) (h1 : n ≤ 999999) {w : World} (hT : TabF w) : Calls Tryz.prog 56 #[.int .i64 n] w (Gives w (.string (itoaB n))) :=
  (Tryz.strconv_Itoa n (by omega) (by omega) w hT).mono fun _ _ ⟨he, _, _, hw⟩ => by
    subst hw
    exact Gives.mk he grow_below
end Go.Proofs.YtooocakkjdhfiaaGreatDoor
/- Variables are renamed to numbered ones: plain. -/
namespace Go.Proofs.YtooocakkjdhfiaaGreatDoor
set_option maxRecDepth 100000
open Go.RowKit

theorem nodup_one {α : Type} {l : List α} (h : l.Nodup) {i j : Nat} (hi : i < l.length) (hj : j < l.length) (e : l[i] = l[j]) : i = j := by
  rw [List.nodup_iff_pairwise_ne, List.pairwise_iff_getElem] at h
  rcases Nat.lt_trichotomy i j with q | q | q
  · exact absurd e (h i j hi hj q)
  · exact q
  · exact absurd e.symm (h j i hj hi q)
/-- a prefix before a number -/
def numS (p : ByteArray) (i : Nat) : ByteArray := p ++ itoaB (i : Int)
theorem numS_size (p : ByteArray) {i : Nat} (h : i ≤ 999999) : p.size + 1 ≤ (numS p i).size ∧ (numS p i).size ≤ p.size + 7 := by
  have := itoaB_size (n := (i : Int)) (by omega) (by omega)
  rw [numS, ByteArray.size_append]
  omega
/-- where a name stands; the length of the list if nowhere -/
def idxS : List ByteArray → ByteArray → Nat
  | [], _ => 0
  | k :: ks, n => if k = n then 0 else idxS ks n + 1
theorem idxS_le : ∀ (ks : List ByteArray) (n : ByteArray), idxS ks n ≤ ks.length
  | [], n => by simp [idxS]
  | k :: ks, n => by
    rw [idxS]
    split
    · omega
    · have := idxS_le ks n
      simp; omega
theorem idxS_at : ∀ {ks : List ByteArray} {n : ByteArray} {k : Nat}, k ≤ ks.length → (∀ j (h : j < ks.length), j < k → ks[j] ≠ n) → (∀ h : k < ks.length, ks[k] = n) → idxS ks n = k
  | [], n, k, h, _, _ => by simp at h; subst h; rfl
  | x :: ks, n, 0, _, _, h2 => by
    have : x = n := h2 (by simp)
    rw [idxS, if_pos this]
  | x :: ks, n, k + 1, h, h1, h2 => by
    have h0 : x ≠ n := h1 0 (by simp) (by omega)
    rw [idxS, if_neg h0, idxS_at (by simpa using h) (fun j hj hk => by have := h1 (j + 1) (by simpa using hj) (by omega); simpa using this) (fun hk => by have := h2 (by simpa using hk); simpa using this)]
theorem idxS_mem : ∀ {ks : List ByteArray} {n : ByteArray}, idxS ks n < ks.length ↔ n ∈ ks
  | [], n => by simp [idxS]
  | k :: ks, n => by
    rw [idxS]
    split
    · rename_i h; simp [h]
    · rename_i h
      have := idxS_mem (ks := ks) (n := n)
      simp only [List.length_cons, List.mem_cons]
      constructor
      · intro q; exact .inr (this.1 (by omega))
      · rintro (q | q)
        · exact absurd q.symm h
        · have := this.2 q; omega
/-- the new name -/
def renN (p : ByteArray) (ks : List ByteArray) (n : ByteArray) : ByteArray := if idxS ks n < ks.length then numS p (idxS ks n) else n
mutual
/-- variables are renamed -/
def Tm.ren (p : ByteArray) (ks : List ByteArray) : Tm → Tm
  | .node n ts => if varName n = true then .node (renN p ks n) [] else .node n (Tm.rens p ks ts)
def Tm.rens (p : ByteArray) (ks : List ByteArray) : List Tm → List Tm
  | [] => []
  | t :: ts => Tm.ren p ks t :: Tm.rens p ks ts
end
theorem Tm.ren_eq (p : ByteArray) (ks : List ByteArray) (t : Tm) : Tm.ren p ks t = if varName t.name = true then .node (renN p ks t.name) [] else .node t.name (Tm.rens p ks t.args) := by
  cases t; rw [Tm.ren]; rfl
theorem Tm.rens_map (p : ByteArray) (ks : List ByteArray) : ∀ ts, Tm.rens p ks ts = ts.map (Tm.ren p ks)
  | [] => rfl
  | t :: ts => by rw [Tm.rens, Tm.rens_map p ks ts]; rfl
theorem Tm.rens_take (p : ByteArray) (ks : List ByteArray) (ts : List Tm) (k : Nat) (h : k < ts.length) : Tm.rens p ks (ts.take (k + 1)) = Tm.rens p ks (ts.take k) ++ [Tm.ren p ks ts[k]] := by
  rw [Tm.rens_map, Tm.rens_map, List.take_succ_eq_append_getElem h, List.map_append]; rfl
theorem Tm.rens_length (p : ByteArray) (ks : List ByteArray) (ts : List Tm) : (Tm.rens p ks ts).length = ts.length := by rw [Tm.rens_map, List.length_map]
theorem renN_size (p : ByteArray) {ks : List ByteArray} (n : ByteArray) (h : ks.length ≤ 999999) : (renN p ks n).size ≤ n.size + p.size + 7 := by
  unfold renN
  split
  · have := numS_size p (i := idxS ks n) (by omega); omega
  · omega
theorem Tm.ren_size (p : ByteArray) (ks : List ByteArray) (t : Tm) : (Tm.ren p ks t).size ≤ t.size := by
  refine Tm.ind (P := fun t => (Tm.ren p ks t).size ≤ t.size) (fun n ts ih => ?_) t
  rw [Tm.ren]
  have key : ∀ ts : List Tm, (∀ a ∈ ts, (Tm.ren p ks a).size ≤ a.size) → Tm.sizes (Tm.rens p ks ts) ≤ Tm.sizes ts := by
    intro ts
    induction ts with
    | nil => intro _; simp [Tm.rens]
    | cons t ts iht =>
      intro h
      have h0 := h t (by simp)
      have h1 := iht fun a ha => h a (by simp [ha])
      rw [Tm.rens, Tm.sizes, Tm.sizes]; omega
  split
  · simp only [Tm.size, Tm.sizes]; omega
  · have := key ts ih
    rw [Tm.size, Tm.size]; omega
theorem Tm.ren_bulk (p : ByteArray) {ks : List ByteArray} (hk : ks.length ≤ 999999) (t : Tm) : (Tm.ren p ks t).bulk ≤ t.bulk + (p.size + 7) * t.size := by
  refine Tm.ind (P := fun t => (Tm.ren p ks t).bulk ≤ t.bulk + (p.size + 7) * t.size) (fun n ts ih => ?_) t
  rw [Tm.ren]
  have key : ∀ ts : List Tm, (∀ a ∈ ts, (Tm.ren p ks a).bulk ≤ a.bulk + (p.size + 7) * a.size) → Tm.bulks (Tm.rens p ks ts) ≤ Tm.bulks ts + (p.size + 7) * Tm.sizes ts := by
    intro ts
    induction ts with
    | nil => intro _; simp [Tm.rens]
    | cons t ts iht =>
      intro h
      have h0 := h t (by simp)
      have h1 := iht fun a ha => h a (by simp [ha])
      rw [Tm.rens, Tm.bulks, Tm.bulks, Tm.sizes, Nat.mul_add]; omega
  split
  · have := renN_size p n hk
    simp only [Tm.bulk, Tm.size, Tm.bulks, List.length_nil, Nat.mul_add]; omega
  · have := key ts ih
    have := Tm.rens_length p ks ts
    simp only [Tm.bulk, Tm.size, Nat.mul_add]; omega
/-- the map from the names to the new ones -/
def kvR (p : ByteArray) (ks : List ByteArray) : List (ByteArray × Value) := ks.mapIdx fun i k => (k, Value.string (numS p i))
theorem kvR_length (p : ByteArray) (ks : List ByteArray) : (kvR p ks).length = ks.length := by simp [kvR]
theorem kvR_keys (p : ByteArray) (ks : List ByteArray) : (kvR p ks).map (·.1) = ks := by
  apply List.ext_getElem (by simp [kvR])
  intro i h1 h2
  simp [kvR]
theorem kvR_snoc (p : ByteArray) (ks : List ByteArray) (k : Nat) (h : k < ks.length) : kvR p (ks.take (k + 1)) = kvR p (ks.take k) ++ [(ks[k], Value.string (numS p k))] := by
  rw [List.take_succ_eq_append_getElem h, kvR, List.mapIdx_concat]
  have : (ks.take k).length = k := by rw [List.length_take]; omega
  rw [this]; rfl
theorem kvR_fresh {p : ByteArray} {ks : List ByteArray} (hn : ks.Nodup) {k : Nat} (h : k < ks.length) : ∀ x ∈ kvR p (ks.take k), x.1 ≠ ks[k] := by
  intro x hx e
  have h1 : x.1 ∈ ks.take k := by rw [← kvR_keys p (ks.take k)]; exact List.mem_map.2 ⟨x, hx, rfl⟩
  obtain ⟨j, hj, hjk⟩ := List.mem_iff_getElem.1 h1
  rw [List.getElem_take] at hjk
  have hjl : j < k := by simp at hj; omega
  exact absurd (nodup_one hn (by omega) h (hjk.trans e)) (by omega)
theorem kvLook_idx (f : Nat → Value) : ∀ (ks : List ByteArray) (n : ByteArray), kvLook (ks.mapIdx fun i k => (k, f i)) n = if idxS ks n < ks.length then some (f (idxS ks n)) else none := by
  intro ks
  induction ks generalizing f with
  | nil => intro n; simp [kvLook, idxS]
  | cons k ks ih =>
    intro n
    rw [List.mapIdx_cons, kvLook, idxS]
    split
    · simp
    · rw [ih (fun i => f (i + 1)) n]
      simp only [List.length_cons, Nat.add_lt_add_iff_right]
theorem kvR_look (p : ByteArray) (ks : List ByteArray) (n : ByteArray) : kvLook (kvR p ks) n = if idxS ks n < ks.length then some (.string (numS p (idxS ks n))) else none := kvLook_idx _ ks n

/-- a numbered variable is a variable's name -/
theorem numS_var {c : UInt8} (hc : upB c.toNat = true) {i : Nat} (h : i ≤ 999) : varName (numS ⟨#[c]⟩ i) = true := by
  have e : numS ⟨#[c]⟩ i = ⟨#[c] ++ (Lib.decDigits i).toArray⟩ := by rw [numS, itoaB_nat, decB, ByteArray.mk_append_mk]; simp
  have hl : (Lib.decDigits i).length ≤ 3 := by rw [Lib.decDigits_length]; exact nDigits_le 2 i (by omega)
  have hz : (⟨#[c] ++ (Lib.decDigits i).toArray⟩ : ByteArray).size = 1 + (Lib.decDigits i).length := by
    show (#[c] ++ (Lib.decDigits i).toArray).size = _
    simp; omega
  rw [e, varName]
  simp only [Bool.and_eq_true, decide_eq_true_eq]
  refine ⟨⟨?_, by rw [hz]; omega⟩, by rw [hz]; omega⟩
  rw [allCh, List.all_eq_true]
  intro j hj
  have hj' : j < (⟨#[c] ++ (Lib.decDigits i).toArray⟩ : ByteArray).size := List.mem_range.1 hj
  have hb : byteAt ⟨#[c] ++ (Lib.decDigits i).toArray⟩ j = ((#[c] ++ (Lib.decDigits i).toArray)[j]'hj').toNat := by rw [byteAt, dif_pos hj']; rfl
  rw [hb, varCh]
  by_cases h0 : j = 0
  · subst h0
    rw [if_pos rfl]
    simpa using hc
  · rw [if_neg h0]
    have hm : (#[c] ++ (Lib.decDigits i).toArray)[j]'hj' ∈ Lib.decDigits i := by
      rw [Array.getElem_append_right (by simp; omega)]
      simp
    have := decDigits_mem i _ hm
    rw [Bool.or_eq_true, digB_iff]
    exact .inr this
end Go.Proofs.YtooocakkjdhfiaaGreatDoor
/- The variables of a clause are renamed: plain. -/
namespace Go.Proofs.YtooocakkjdhfiaaGreatDoor
set_option maxRecDepth 100000
open Go.RowKit

def renL (p : ByteArray) (ks : List ByteArray) (l : Lit) : Lit := ⟨l.pos, Tm.ren p ks l.atom⟩
/-- the renamed clause -/
def Cl.ren (p : ByteArray) (ks : List ByteArray) (c : Cl) : Cl := ⟨makeL (c.ls.map (renL p ks))⟩
/-- the new names of a list of at most a thousand are variables -/
theorem renN_var {c : UInt8} (hc : upB c.toNat = true) {ks : List ByteArray} (hk : ks.length ≤ 1000) {n : ByteArray} (hn : varName n = true) : varName (renN ⟨#[c]⟩ ks n) = true := by
  unfold renN
  split
  · exact numS_var hc (by omega)
  · exact hn
theorem Tm.ren_nice {c : UInt8} (hc : upB c.toNat = true) {ks : List ByteArray} (hk : ks.length ≤ 1000) (t : Tm) : t.nice = true → (Tm.ren ⟨#[c]⟩ ks t).nice = true := by
  refine Tm.ind (P := fun t => t.nice = true → (Tm.ren ⟨#[c]⟩ ks t).nice = true) (fun n ts ih h => ?_) t
  rw [Tm.ren]
  have h3 := (Tm.nice_iff _).1 h
  split
  · rename_i hv
    have hv2 := renN_var hc hk hv
    have := varName_first hv2
    rw [Tm.nice_iff]
    exact ⟨this.1, by rw [Tm.name, this.2, hv2], by simp [Tm.args]⟩
  · rw [Tm.nice_iff]
    refine ⟨h3.1, h3.2.1, fun a ha => ?_⟩
    rw [Tm.args, Tm.rens_map] at ha
    obtain ⟨b, hb, rfl⟩ := List.mem_map.1 ha
    exact ih b hb (h3.2.2 b hb)
theorem Tm.ren_leafy (p : ByteArray) (ks : List ByteArray) (t : Tm) : t.leafy → (Tm.ren p ks t).leafy := by
  refine Tm.ind (P := fun t => t.leafy → (Tm.ren p ks t).leafy) (fun n ts ih h => ?_) t
  rw [Tm.ren]
  rw [Tm.leafy, Tm.leafies_iff] at h
  split
  · rw [Tm.leafy, Tm.leafies_iff]; exact ⟨fun _ => rfl, by simp⟩
  · rename_i hv
    rw [Tm.leafy, Tm.leafies_iff]
    refine ⟨fun q => absurd q hv, fun a ha => ?_⟩
    rw [Tm.rens_map] at ha
    obtain ⟨b, hb, rfl⟩ := List.mem_map.1 ha
    exact ih b hb (h.2 b hb)
end Go.Proofs.YtooocakkjdhfiaaGreatDoor
/- Is a clause normalized: the program's. -/
namespace Go.Proofs.YtooocakkjdhfiaaGreatDoor
set_option maxRecDepth 100000
open Go.RowKit

/-- the names are X0, X1, .. -/
def normK (ks : List ByteArray) : Bool := decide (ks = (List.range ks.length).map (numS ⟨#[88]⟩))
theorem normK_iff (ks : List ByteArray) : normK ks = true ↔ ∀ i (h : i < ks.length), ks[i] = numS ⟨#[88]⟩ i := by
  rw [normK, decide_eq_true_iff]
  constructor
  · intro e i h
    have h2 : i < ((List.range ks.length).map (numS ⟨#[88]⟩)).length := by simpa using h
    have : ks[i] = ((List.range ks.length).map (numS ⟨#[88]⟩))[i] := by congr 1
    rw [this]; simp
  · intro h
    apply List.ext_getElem (by simp)
    intro i h1 h2
    rw [h i h1]; simp
set_option maxHeartbeats 2000000 in
theorem isNormalized_any (t : Cl) {S : Nat → Prop} {c0 : Value} {w : World} (ht : Cl.at S w c0 t) (hbk : t.bulk ≤ 1048576) (hni : ∀ a ∈ t.atoms, a.nice = true) (hk : (Tm.colls t.atoms []).length ≤ 999999) (hF : TabF w) :
    Calls Tryz.prog 35 #[.agg #[c0]] w (Gives w (.bool (normK (Tm.colls t.atoms [])))) := by
  obtain ⟨ks, Hks⟩ : ∃ ks, Hid (Tm.colls t.atoms [] = ks) := ⟨_, hid rfl⟩
  rw [Hks.out] at hk ⊢
  have HF := hid hF
  clear hF
  obtain ⟨ta, tc, rfl⟩ := Cl.at_form ht
  have hW : Below w.heap.size w (w.alloc (.cells #[.slice ta t.ls.length tc] 28)) := (Below.refl _ _).alloc (Nat.le_refl _) _
  have bt : Box (w.alloc (.cells #[.slice ta t.ls.length tc] 28)) (w.heap.size) [.slice ta t.ls.length tc] := by
    have := (Box.new w [.slice ta t.ls.length tc] 28)
    simpa only [World.size_alloc] using this
  replace ht := Cl.at_keep (Keeps.all hW) ht
  have et0 := bt.c0
  have lt := bt.lt
  go_enter Tryz.func35, Tryz.ntmps35
  go_wp2_with fail
  clear et0 lt
  have Hw0 : Hid ((w.alloc (.cells #[.slice ta t.ls.length tc] 28)).heap.size = w.heap.size + 1) := by simp [Hid]
  generalize (w.alloc (.cells #[.slice ta t.ls.length tc] 28)) = w0 at *
  have hq := namesIn_any t ht hbk hni
  rw [Hks.out] at hq
  refine hq.mono ?_
  clear hq
  rintro e w1 ⟨g, cap, rfl, hg, hb⟩
  replace hW := hW.trans (hb.mono hW.size)
  have HRD := hid hg.rd
  have HW := hid hW
  clear hg hb hW
  go_wp2_with fail
  go_loopw [8] (fun i wr => ∃ k : Nat, k ≤ ks.length ∧ i = .int .i64 k ∧ Hid (∀ j (h : j < ks.length), j < k → ks[j] = numS ⟨#[88]⟩ j) ∧ Hid (Below w1.heap.size w1 wr)) (fun i _ => ks.length - (intOf i).toNat)
  case atStart => exact ⟨0, Nat.zero_le _, rfl, fun j h h' => absurd h' (by omega), Below.refl _ _⟩
  case round =>
    obtain ⟨k, hk2, rfl, HX, HB⟩ := hrel
    have hkI : (0 : Int) ≤ (k : Int) := by omega
    have HBW := hid (HW.out.trans (HB.out.mono HW.out.size))
    by_cases hlt : k < ks.length
    · obtain ⟨b, off, e, -, hbl, hrr⟩ := strs_get (D.rd_keep (Keeps.all HB.out) _ _ HRD.out) (by intro e; subst e; simp at hlt)
      injection e with e
      injection e with e1 e2
      subst e1 e2
      obtain ⟨q0, -⟩ := hrr k hlt
      rw [Nat.zero_add] at q0
      clear hrr
      have hz := itoaB_size (n := (k : Int)) (by omega) (by omega)
      have g4 : ¬ 9223372036854775807 < 1 + (itoaB (k : Int)).size := by omega
      have hnum := itoa_any (n := (k : Int)) (by omega) (by omega) (TabF.keep HF.out HBW.out)
      by_cases he : ks[k] = numS ⟨#[88]⟩ k
      · have HZ : Hid (∀ j (h : j < ks.length), j < k + 1 → ks[j] = numS ⟨#[88]⟩ j) := fun j h h' => by
          by_cases hjk : j < k
          · exact HX.out j h hjk
          · obtain rfl : j = k := by omega
            exact he
        have hq := show (ks[k].toList == (ByteArray.mk #[88] ++ itoaB (k : Int)).toList) = true by rw [he, numS]; simp
        clear he
        go_wp2_with fail
        refine hnum.mono ?_
        rintro e w2 ⟨_, rfl, hb2, rfl⟩
        have HB2 := hid (HB.out.trans (hb2.mono HB.out.size))
        clear hnum
        go_wp2_with fail
        go_roundw
        case rel => exact ⟨k + 1, by omega, by go_num, HZ, HB2⟩
        case measure => simp [intOf]; omega
      · have HV : Hid (normK ks = false) := by
          rw [Hid, Bool.eq_false_iff, Ne, normK_iff]; intro h; exact he (h k hlt)
        have hq : (ks[k].toList == (ByteArray.mk #[88] ++ itoaB (k : Int)).toList) = false := toList_ne he
        clear he
        go_wp2_with fail
        refine hnum.mono ?_
        rintro e w2 ⟨_, rfl, hb2, rfl⟩
        have HB2 := hid (HBW.out.trans (hb2.mono HBW.out.size))
        clear hnum
        go_wp2_with fail
        go_ret
        exact Gives.mk (by rw [HV.out]; rfl) HB2.out
    · obtain rfl : k = ks.length := by omega
      have HV : Hid (normK ks = true) := (normK_iff ks).2 fun i h => HX.out i h h
      go_wp2_with fail
      go_ret
      exact Gives.mk (by rw [HV.out]; rfl) HBW.out
end Go.Proofs.YtooocakkjdhfiaaGreatDoor
/- Rows of items are sorted: the library's law, at lists. -/
namespace Go.Proofs.YtooocakkjdhfiaaGreatDoor
set_option maxRecDepth 100000
open Go.RowKit

theorem flatV_get {α : Type} {enc : α → List Value} {k : Nat} (hk : ∀ x, (enc x).length = k) (d : List α) (i c : Nat) (hi : i < d.length) (hc : c < k) : (d.flatMap enc)[i * k + c]? = (enc d[i])[c]? := by
  induction d generalizing i with
  | nil => exact absurd hi (by simp)
  | cons y ys ih =>
    rw [List.flatMap_cons]
    cases i with
    | zero => rw [Nat.zero_mul, Nat.zero_add, List.getElem?_append_left (by rw [hk y]; exact hc)]; rfl
    | succ i =>
      rw [List.getElem?_append_right (by rw [hk y, Nat.add_mul, Nat.one_mul]; omega), hk y, show (i + 1) * k + c - k = i * k + c by rw [Nat.add_mul, Nat.one_mul]; omega, ih i (by simpa using hi)]
      rfl
theorem flatV_length {α : Type} {enc : α → List Value} {k : Nat} (hk : ∀ x, (enc x).length = k) (d : List α) : (d.flatMap enc).length = d.length * k := by
  induction d with
  | nil => simp
  | cons y ys ih => rw [List.flatMap_cons, List.length_append, ih, hk y, List.length_cons, Nat.add_mul, Nat.one_mul, Nat.add_comm]
section
variable {α : Type} [Inhabited α] {enc : α → List Value} {k : Nat}
theorem flatK_get (hk : ∀ x, (enc x).length = k) (d : List α) (t : Nat) (ht : t < d.length * k) : (d.flatMap enc)[t]? = some (Go.Sort.flatK enc k d.toArray)[t]! := by
  have hk0 : 0 < k := by
    rcases Nat.eq_zero_or_pos k with h | h
    · subst h; simp at ht
    · exact h
  have hi : t / k < d.length := (Nat.div_lt_iff_lt_mul hk0).2 ht
  have hc : t % k < k := Nat.mod_lt _ hk0
  have he : t / k * k + t % k = t := Nat.div_add_mod' t k
  have h0 := flatV_get hk d (t / k) (t % k) hi hc
  rw [he] at h0
  rw [h0, Go.Sort.get_flatK _ _ _ _ (by simpa using ht), List.getElem?_eq_getElem (by rw [hk]; exact hc), getElem!_pos d.toArray (t / k) (by simpa using hi)]
  rw [getElem!_pos (enc d.toArray[t / k]) (t % k) (by rw [hk]; exact hc)]
  simp
theorem holds_of_row (hk : ∀ x, (enc x).length = k) {w : World} {b off : Nat} {e : TypeId} {d : List α} (h : RowAt w b off e (d.flatMap enc)) : Go.Sort.HoldsK enc k w b off d.toArray := by
  intro j hj
  rw [Go.Sort.size_flatK] at hj
  have hj' : j < d.length * k := by simpa using hj
  have hl : j < (d.flatMap enc).length := by rw [flatV_length hk]; exact hj'
  refine ⟨?_, h.free _⟩
  rw [h.cell hl]
  have := flatK_get hk d j hj'
  rw [List.getElem?_eq_getElem hl] at this
  exact this
theorem row_of_holds (hk : ∀ x, (enc x).length = k) {w : World} {b off : Nat} {e : TypeId} {d : List α} {cur : Array Value} (hb : w.heap[b]? = some (.cells cur e (0, 0))) (h : Go.Sort.HoldsK enc k w b off d.toArray) : RowAt w b off e (d.flatMap enc) := by
  refine ⟨cur, hb, fun i hi => ?_⟩
  have hi' : i < d.length * k := by rw [flatV_length hk] at hi; exact hi
  have h0 := (h i (by rw [Go.Sort.size_flatK]; simpa using hi')).1
  have h1 := flatK_get hk d i hi'
  rw [List.getElem?_eq_getElem hi] at h1
  have h2 := Option.some.inj h1
  simp only [World.cell?, hb] at h0
  simp only [Option.isSome_none, Bool.false_eq_true, if_false] at h0
  rw [h0, h2]
  rfl
theorem sortWorld_row {w : World} {b off n : Nat} {e : TypeId} {cur : Array Value} {d : Array α} {os : Array Obj} (hb : w.heap[b]? = some (.cells cur e (0, 0))) :
    (∃ cur', (Go.Proofs.sortWorldK enc k w b off n d os).heap[b]? = some (.cells cur' e (0, 0))) ∧ w.grownBy (Go.Proofs.sortWorldK enc k w b off n d os) (some b) := by
  have hl := lt_of_heap hb
  have hz : (Go.Sort.putRowK enc k (Go.Sort.ahead w n) b off d).heap.size = w.heap.size := by
    simp [Go.Sort.putRowK, Go.Sort.putRow, Go.Sort.mapBlock, Go.Sort.ahead]
  refine ⟨?_, rfl, rfl, rfl, ?_, fun j hj hne => ?_⟩
  · refine ⟨(Go.Sort.putCells id off (Go.Sort.flatK enc k d)) cur, ?_⟩
    show (Go.Sort.grow _ os).heap[b]? = _
    rw [Go.Sort.heap_grow_old _ _ (by rw [hz]; exact hl)]
    show (w.heap.modify b _)[b]? = _
    rw [Array.getElem?_modify, if_pos rfl, hb]
    rfl
  · show _ ≤ (Go.Sort.grow _ os).heap.size
    rw [Go.Sort.size_grow, hz]; omega
  · show (Go.Sort.grow _ os).heap[j]? = _
    rw [Go.Sort.heap_grow_old _ _ (by rw [hz]; exact hj)]
    show (w.heap.modify b _)[j]? = _
    rw [Array.getElem?_modify, if_neg (fun e => hne (by rw [e]))]

/-- SORTING, AT LISTS -/
theorem sort_rows {P : Program} {ρ : Go.Shelf.Ren} (L : Go.Proofs.SlLaysF0.n6 P ρ) (aE : ∀ w, (isAgg (ρ.t 24)).run P w = .ok true w) (zE : ∀ w, (Go.sizeOf (ρ.t 24)).run P w = .ok k w) (hk : ∀ x, (enc x).length = k) (h1 : ∀ x, ∀ v ∈ enc x, v.oneCell' = true) (cf : α → α → Int) (hO : Go.Sort.SWO (Go.Proofs.ltOf cf)) (g : Nat) (cb : Array Value)
    {b off cap : Nat} {e : TypeId} {d : List α} {w : World} (eg : ∀ args w, (callFunc g args).run P w = .ok (.enter g args) w) (hcmp : Go.Proofs.CmpLays P g cb enc k cf b off d.length w) (hrow : RowAt w b off e (d.flatMap enc)) (hsz : d.length < 4611686018427387904) :
    Calls P (ρ.f 6) #[.slice (some ⟨b, off, none⟩) d.length cap, .func (.func g) #[] cb] w fun r w' => r = .returned (.tuple #[]) ∧ ∃ d' : List α, d'.Perm d ∧ d'.Pairwise (fun x y => ¬ cf y x < 0) ∧ RowAt w' b off e (d'.flatMap enc) ∧ w.grownBy w' (some b) := by
  have hH := holds_of_row hk hrow
  have hbl := hrow.lt
  obtain ⟨cur, hb, -⟩ := hrow
  have hs : d.toArray.size = d.length := by simp
  have hq := Go.Proofs.AnyQ.slices_SortFunc L k aE zE enc hk h1 cf hO g cb b off cap d.toArray w eg (by rw [hs]; exact hcmp) hH hbl (by rw [hs]; exact hsz)
  rw [hs] at hq
  refine hq.mono ?_
  rintro r w' ⟨rfl, d', n, os, hp, hso, rfl⟩
  obtain ⟨hp0, -, hp1⟩ := hp
  have hs' : d'.size = d.length := by rw [hp0, hs]
  obtain ⟨⟨cur', hc'⟩, hg⟩ := sortWorld_row (enc := enc) (k := k) (off := off) (n := n) (d := d') (os := os) hb
  refine ⟨rfl, d'.toList, ?_, ?_, row_of_holds hk hc' ?_, hg⟩
  · have e1 : d'.extract 0 d.length = d' := by rw [← hs']; simp
    have e2 : d.toArray.extract 0 d.length = d.toArray := by rw [← hs]; simp
    rw [e1, e2] at hp1
    simpa using hp1
  · rw [List.pairwise_iff_getElem]
    intro i j hi hj hij
    have := hso i j (Nat.zero_le _) hij (by simpa [← hs'] using hj)
    rw [getElem!_pos d' i (by simpa using hi), getElem!_pos d' j (by simpa using hj)] at this
    simpa [Go.Proofs.ltOf] using this
  · have := Go.Proofs.holdsK_sortWorldK_c enc k w b off d.toArray d' n os hH hbl (by rw [hs', hs])
    simpa using this
end
/-- a call that changes nothing old and gives no draw back has laid blocks and drawn -/
theorem grow_of_below {w w' : World} (h : Below w.heap.size w w') (hd : w.drawn ≤ w'.drawn) : ∃ q os, w' = Go.Sort.grow (w.drewN q) os := by
  refine ⟨w'.drawn - w.drawn, w'.heap.extract w.heap.size w'.heap.size, ?_⟩
  have hh : w'.heap = w.heap ++ w'.heap.extract w.heap.size w'.heap.size := by
    apply Array.ext_getElem?
    intro i
    rw [Array.getElem?_append]
    split
    · rename_i hi; exact h.block i hi
    · rename_i hi
      rw [Array.getElem?_extract]
      split
      · congr 1; omega
      · rw [Array.getElem?_eq_none (by omega)]
  obtain ⟨h0, h1, h2, -, -⟩ := h
  cases w; cases w'
  simp only [Go.Sort.grow, World.drewN] at *
  subst h0 h1 h2
  congr 1
  · omega
end Go.Proofs.YtooocakkjdhfiaaGreatDoor
/- Literals are sorted by the library's law. -/
namespace Go.Proofs.YtooocakkjdhfiaaGreatDoor
set_option maxRecDepth 100000
open Go.RowKit

/-- an item of the row: its atom tells by first bytes, its arguments read in w0 within S -/
def GoodL (S : Nat → Prop) (w0 : World) (p : LV) : Prop := p.1.atom.nice = true ∧ p.1.atom.name.size ≤ maxLen ∧ D.rd S w0 p.2 (Tm.sd p.1.atom.args)
abbrev GV (S : Nat → Prop) (w0 : World) := { p : LV // GoodL S w0 p }
def GV.enc {S : Nat → Prop} {w0 : World} (x : GV S w0) : List Value := Lit.ev x.1
def GV.cmp {S : Nat → Prop} {w0 : World} (x y : GV S w0) : Int := Lit.cmp x.1.1 y.1.1
theorem GV.swo {S : Nat → Prop} {w0 : World} : Go.Sort.SWO (Go.Proofs.ltOf (GV.cmp (S := S) (w0 := w0))) where
  irrefl x := by simp [Go.Proofs.ltOf, GV.cmp, Lit.cmp_self]
  trans x y z h1 h2 := by
    exact decide_eq_true (Lit.lt_trans (of_decide_eq_true h1) (of_decide_eq_true h2))
  ntrans x y z h1 h2 := by
    exact decide_eq_false (Lit.lt_ntrans (of_decide_eq_false h1) (of_decide_eq_false h2))
theorem GV.one {S : Nat → Prop} {w0 : World} (x : GV S w0) : ∀ v ∈ GV.enc x, v.oneCell' = true := by
  intro v hv
  obtain ⟨a, c, e, -⟩ := Tm.sd_form x.2.2.2
  simp only [GV.enc, Lit.ev, List.mem_cons, List.not_mem_nil, or_false] at hv
  rcases hv with rfl | rfl | rfl
  · rfl
  · rfl
  · rw [e]; rfl
theorem GV.lift {S : Nat → Prop} {w0 : World} : ∀ (d : List LV), (∀ p ∈ d, GoodL S w0 p) → ∃ d2 : List (GV S w0), d2.map (fun p => p.1) = d ∧ d2.flatMap GV.enc = d.flatMap Lit.ev
  | [], _ => ⟨[], rfl, rfl⟩
  | p :: d, h => by
    obtain ⟨d2, h1, h2⟩ := GV.lift d fun q hq => h q (by simp [hq])
    exact ⟨⟨p, h p (by simp)⟩ :: d2, by simp [h1], by rw [List.flatMap_cons, List.flatMap_cons, h2]; rfl⟩
theorem cmpLit {S : Nat → Prop} {w0 W : World} (hk : Keeps S w0 W) (x y : GV S w0) : Calls Tryz.prog 44 #[.agg (GV.enc x).toArray, .agg (GV.enc y).toArray] W fun e w' => e = .returned (.int .i64 (GV.cmp x y)) ∧ ∃ q os, w' = Go.Sort.grow (W.drewN q) os := by
  obtain ⟨⟨t, c⟩, h1, h2, h3⟩ := x
  obtain ⟨⟨u, d⟩, k1, k2, k3⟩ := y
  have hq := compareLiterals_nice (t := t) (u := u) h1 k1 (S := S) (w := W) (c0 := .bool t.pos) (c1 := .string t.atom.name) (c2 := c) (d0 := .bool u.pos) (d1 := .string u.atom.name) (d2 := d) ⟨by rw [D.rd], D.rd_str h2, D.rd_keep hk _ _ h3⟩ ⟨by rw [D.rd], D.rd_str k2, D.rd_keep hk _ _ k3⟩
  refine (Drw.calls_drawn hq ?_).mono ?_
  · rintro w' ⟨v, e, -⟩
    cases e
  · rintro e w' ⟨⟨v, rfl, hb, rfl⟩, hd⟩
    exact ⟨rfl, grow_of_below hb hd⟩
theorem isAggLV (w : World) : (isAgg 52).run Tryz.prog w = .ok true w := by kernel_rfl
theorem sizeOfLV (w : World) : (Go.sizeOf 52).run Tryz.prog w = .ok 3 w := by kernel_rfl
theorem mk_of_grownL {F : List Nat} {b : Nat} {w w' : World} (hb : b ∈ F) (hg : w.grownBy w' (some b)) : Mk F w w' :=
  ⟨⟨hg.size, fun x hx hl => hg.block x hl fun e => hx (by injection e with e; rw [e]; exact hb)⟩, fun B hB hF => (Below.refl B w).grown hg hB fun k hk => by injection hk with hk; rw [← hk]; exact hF b hb⟩
def LeL (x y : Lit) : Prop := ¬ Lit.cmp y x < 0
set_option maxHeartbeats 1000000 in
theorem sortLit_any {xs : List Lit} {v : Value} {F : List Nat} {w : World} (ho : D.own w v (Lit.sd xs) F) (hl : xs.length ≤ 1073741824) (hni : ∀ x ∈ xs, x.atom.nice = true) :
    Calls Tryz.prog 80 #[v, .func (.func 44) #[] #[]] w fun e w' => e = .returned (.tuple #[]) ∧ ∃ ys F', ys.Perm xs ∧ ys.Pairwise LeL ∧ D.own w' v (Lit.sd ys) F' ∧ (∀ y ∈ F', y ∈ F) ∧ Mk F w w' := by
  obtain ⟨a, c, rfl⟩ := Lit.sd_own_form ho
  by_cases hne : xs = []
  · subst hne
    have := Go.Proofs.AnyF.slices_SortFunc_none Tryz.SortL a c (.func (.func 44) #[] #[]) w
    refine Calls.mono this ?_
    rintro e w' ⟨rfl, rfl⟩
    exact ⟨rfl, [], F, List.Perm.refl _, List.Pairwise.nil, ho, fun _ h => h, Mk.refl _ _⟩
  · have ho2 := ho
    have hcap : xs.length ≤ big ∧ xs.length ≤ c := by rw [Lit.sd_css, D.own] at ho; obtain ⟨_, _, e, h1, h, _⟩ := ho; injection e with _ _ e; subst e; exact ⟨h1, h⟩
    rw [Lit.sd_css] at ho2
    obtain ⟨b, off, ty, vs, F', rfl, rfl, hbF, hrow, hvl, hol⟩ := own_row ho2 (Lit.css_ne hne)
    obtain ⟨d, hd, hvd, hds⟩ := Lit.items xs vs F' hol
    obtain ⟨d2, hd2, he2⟩ := GV.lift (S := (· ∈ F')) (w0 := w) d fun p hp => ⟨hni _ (by rw [← hd]; exact List.mem_map.2 ⟨p, hp, rfl⟩), (hds p hp).1, (hds p hp).2.2⟩
    have hdl : d2.length = xs.length := by rw [← hd]; have := congrArg List.length hd2; simpa using this
    have hmap : d2.map (fun p => p.1.1) = xs := by rw [← hd, ← hd2, List.map_map]; rfl
    have hed : ∀ e : List (GV (· ∈ F') w), e.flatMap (fun p => p.1.1.cs) = Lit.css (e.map fun p => p.1.1) := fun e => by rw [Lit.css_flat, List.flatMap_map]
    have hol2 : OwnsL w (d2.flatMap GV.enc) (d2.flatMap fun p => p.1.1.cs) F' := by
      rw [he2, ← hvd, hed, hmap]
      exact hol
    rw [hvd, ← he2] at hrow
    obtain ⟨cur, hcur, -⟩ := id hrow
    have hin : ∃ p0 : GV (· ∈ F') w, p0 ∈ d2 := by
      cases d2 with
      | nil => exact absurd (List.length_eq_zero_iff.1 hdl.symm) hne
      | cons p0 r0 => exact ⟨p0, by simp⟩
    obtain ⟨p0, -⟩ := hin
    letI : Inhabited (GV (· ∈ F') w) := ⟨p0⟩
    have hkeep : ∀ (m : Nat) (os : Array Obj) (dk : Array (GV (· ∈ F') w)), Keeps (· ∈ F') w (Go.Proofs.sortWorldK (GV.enc (S := (· ∈ F')) (w0 := w)) 3 w b off m dk os) := fun m os dk => by
      have hg := (sortWorld_row (enc := GV.enc (S := (· ∈ F')) (w0 := w)) (k := 3) (off := off) (n := m) (d := dk) (os := os) hcur).2
      exact ⟨hg.size, fun x hx hlx => hg.block x hlx fun e => hbF (by injection e with e; rw [← e]; exact hx)⟩
    have hs := sort_rows Tryz.SortL (k := 3) isAggLV sizeOfLV (enc := GV.enc (S := (· ∈ F')) (w0 := w)) (fun _ => rfl) GV.one GV.cmp GV.swo 44 #[] (cap := c) (fun _ _ => by kernel_rfl) (fun m os dk _ x y => cmpLit (hkeep m os dk) x y) hrow (by omega)
    rw [hdl] at hs
    refine Calls.mono hs ?_
    rintro e w' ⟨rfl, d', hp, hso, hrow', hg⟩
    obtain ⟨F2, hol3, hF2⟩ := items_perm (ev := GV.enc) (ed := fun p => p.1.1.cs) (fun p => by rw [Lit.cs_eq]; rfl) hp.symm hol2
    have hl' : (d'.map fun p => p.1.1).length = xs.length := by rw [List.length_map, hp.length_eq, hdl]
    have hol4 : OwnsL w' (d'.flatMap GV.enc) (Lit.css (d'.map fun p => p.1.1)) F2 := by
      rw [← hed]
      exact hol3.keep ⟨hg.size, fun x hx hl => hg.block x hl fun e => hbF (by injection e with e; rw [← e]; exact hF2 x hx)⟩
    obtain ⟨G, hG, hGF⟩ := row_own (n := xs.length) (cap := c) hrow' hol4 (fun q => hbF (hF2 b q)) (fun i hi => List.getElem?_eq_getElem hi) hcap.1 hcap.2 (fun h0 => Lit.css_ne (fun e => h0 (by rw [← hl', e]; rfl)))
    refine ⟨rfl, d'.map (fun p => p.1.1), G, ?_, ?_, ?_, fun y hy => ?_, mk_of_grownL (by simp) hg⟩
    · have := hp.map (fun p : GV (· ∈ F') w => p.1.1)
      rw [hmap] at this
      exact this
    · rw [List.pairwise_map]
      exact hso
    · rw [Lit.sd_css, hl']; exact hG
    · rcases hGF y hy with h | h
      · simp [h]
      · simp [hF2 y h]
end Go.Proofs.YtooocakkjdhfiaaGreatDoor
