/- Positions as texts: the reference's and the program's. -/
import Derived.Test.YtgbfcaehijpgcaaDoorNw
import Derived.Test.YtgbfcaehijpgcaaDoorJn
import Derived.Test.YtgbfcaehijpgcaaDoorJt
import Derived.Test.YtgbfcaehijpgcaaDoorIl
namespace Go.Proofs.YtgbfcaehijpgcaaDoor
set_option maxRecDepth 100000
open Go Go.RowKit

def posOk (p : List Int) : Bool := decide (p.length ≤ 8) && !(p.any fun k => !inB k 0 3)
def dotted (p : List Int) : List UInt8 := Lib.join (p.map Lib.itoa) [46]
def posList (p : List Int) : List UInt8 := if p = [] then [45] else dotted p
def fpR (p : List Int) : ByteArray := if posOk p = true then bs (posList p) else ByteArray.empty
theorem itoaB_bs (n : Int) : itoaB n = bs (Lib.itoa n) := rfl
theorem dotted_succ (p : List Int) (k : Nat) (hk : k < p.length) : dotted (p.take (k + 1)) = if k = 0 then Lib.itoa p[k] else dotted (p.take k) ++ [46] ++ Lib.itoa p[k] := by
  unfold dotted
  rw [List.take_succ_eq_append_getElem hk, List.map_append, List.map_cons, List.map_nil, join_grow]
  by_cases h : k = 0
  · subst h; simp
  · rw [if_neg h, if_neg (by intro e; have := congrArg List.length e; rw [List.length_map, List.length_take, List.length_nil] at this; omega)]
theorem dotted_len (p : List Int) (hp : ∀ k ∈ p, -999999 ≤ k ∧ k ≤ 999999) : ∀ k, k ≤ p.length → (dotted (p.take k)).length ≤ k * 8
  | 0, _ => by simp [dotted, Lib.join_nil]
  | k + 1, hk => by
    have ih := dotted_len p hp k (by omega)
    have h := hp p[k] (List.getElem_mem _)
    have hl := (itoa_len h.1 h.2).2
    rw [dotted_succ p k (by omega)]
    split
    · omega
    · simp only [List.length_append, List.length_cons, List.length_nil]; omega
theorem dotted_pos (p : List Int) (hp : ∀ k ∈ p, -999999 ≤ k ∧ k ≤ 999999) (k : Nat) (hk : k < p.length) : 1 ≤ (dotted (p.take (k + 1))).length := by
  have h := hp p[k] (List.getElem_mem _)
  have hl := (itoa_len h.1 h.2).1
  rw [dotted_succ p k hk]
  split
  · exact hl
  · simp only [List.length_append, List.length_cons, List.length_nil]; omega
theorem posOk_iff (p : List Int) : posOk p = true ↔ p.length ≤ 8 ∧ ∀ k ∈ p, 0 ≤ k ∧ k ≤ 3 := by
  unfold posOk
  rw [Bool.and_eq_true, decide_eq_true_iff, Bool.not_eq_true', Bool.eq_false_iff, Ne, List.any_eq_true]
  refine and_congr_right fun _ => ⟨fun h k hk => ?_, fun h => ?_⟩
  · refine Classical.byContradiction fun hn => h ⟨k, hk, ?_⟩
    rw [Bool.not_eq_true', inB_no (by omega)]
  · rintro ⟨k, hk, hn⟩
    have := h k hk
    rw [inB_yes this.1 this.2] at hn
    cases hn
theorem pos_in {p : List Int} (h : posOk p = true) : ∀ k ∈ p, -999999 ≤ k ∧ k ≤ 999999 := fun k hk => by
  have := ((posOk_iff p).1 h).2 k hk; omega

/-- f is callable -/
def CallableF (f : FuncId) : Prop := ∀ (args : Array Value) (w : World), Sem.run Tryd.prog (callFunc f args) w = .ok (.enter f args) w
/-- the index of the first of which p holds, or a negative number -/
def FoundI (ss : List Int) (p : Int → Bool) (w : World) (e : Ending) (w' : World) : Prop := ∃ r : Int, e = .returned (.int .i64 r) ∧ ((0 ≤ r ∧ ss.any p = true) ∨ (r < 0 ∧ ss.any p = false)) ∧ w = w'
set_option maxHeartbeats 1000000 in
theorem indexFuncI (f : FuncId) (hcf : CallableF f) (p : Int → Bool) (ss : List Int) {w : World} (h : ∀ s ∈ ss, Calls Tryd.prog f #[.int .i64 s] w fun e w' => e = .returned (.bool (p s)) ∧ w = w') {S : Nat → Prop} {v : Value} (hs : D.rd S w v (slOf intE ss)) :
    Calls Tryd.prog 94 #[v, .func (.func f) #[] #[]] w (FoundI ss p w) := by
  obtain ⟨a, cap, rfl, hlen, hcap⟩ := slOf_form hs
  unfold big at hlen
  go_enter Tryd.func94, Tryd.ntmps94
  go_wp2_with fail
  go_loop [8] (fun i => ∃ k : Nat, k ≤ ss.length ∧ i = .int .i64 k ∧ Hid ((ss.take k).any p = false)) (fun i => ss.length - (intOf i).toNat)
  case atStart => exact ⟨0, Nat.zero_le _, rfl, by simp [Hid]⟩
  case round =>
    obtain ⟨k, hk, rfl, HX⟩ := hrel
    by_cases hlt : k < ss.length
    · have hne : ss ≠ [] := by intro e; subst e; simp at hlt
      obtain ⟨b, off, rfl, hS, hbl, hrr⟩ := ints_get hs hne
      obtain ⟨q0, q1⟩ := hrr k hlt
      have hq := h ss[k] (List.getElem_mem hlt)
      clear hs hrr
      unfold CallableF at hcf
      go_wp2_with fail
      refine hq.mono ?_
      rintro e w2 ⟨rfl, rfl⟩
      by_cases hp : p ss[k] = true
      · have HF : Hid (ss.any p = true) := List.any_eq_true.2 ⟨_, List.getElem_mem hlt, hp⟩
        rw [hp]
        clear hp
        go_wp2_with fail
        go_ret
        exact ⟨k, rfl, .inl ⟨by omega, HF.out⟩, rfl⟩
      · have HF : Hid ((ss.take (k + 1)).any p = false) := by
          rw [Hid, List.take_succ_eq_append_getElem hlt, List.any_append, HX.out]; simpa using hp
        replace hp : p ss[k] = false := by simpa using hp
        rw [hp]
        clear hp
        go_wp2_with fail
        go_round
        case rel => exact ⟨k + 1, by omega, by go_num, HF⟩
        case measure => simp [intOf]; omega
    · obtain rfl : k = ss.length := by omega
      have HF : Hid (ss.any p = false) := by have := HX.out; rwa [List.take_length] at this
      go_wp2_with fail
      go_ret
      exact ⟨-1, rfl, Or.inr (And.intro (by omega) HF.out), rfl⟩
theorem containsFuncI (f : FuncId) (hcf : CallableF f) (p : Int → Bool) (ss : List Int) {w : World} (h : ∀ s ∈ ss, Calls Tryd.prog f #[.int .i64 s] w fun e w' => e = .returned (.bool (p s)) ∧ w = w') {S : Nat → Prop} {v : Value} (hs : D.rd S w v (slOf intE ss)) :
    Calls Tryd.prog 78 #[v, .func (.func f) #[] #[]] w fun e w' => e = .returned (.bool (ss.any p)) ∧ w = w' := by
  go_enter Tryd.func78, Tryd.ntmps78
  go_wp2_with fail
  refine (indexFuncI f hcf p ss h hs).mono ?_
  rintro e w' ⟨r, rfl, hr, rfl⟩
  rcases hr with ⟨h0, h1⟩ | ⟨h0, h1⟩
  · have H := hid h1
    clear h1
    go_wp2_with fail
    go_ret
    exact ⟨ret_bool H.out.symm, rfl⟩
  · have H := hid h1
    clear h1
    go_wp2_with fail
    go_ret
    exact ⟨ret_bool (by rw [H.out]; simp; omega), rfl⟩
theorem isPos1_any (k : Int) (w : World) : Calls Tryd.prog 79 #[.int .i64 k] w fun e w' => e = .returned (.bool (!inB k 0 3)) ∧ w = w' := by
  go_enter Tryd.func79, Tryd.ntmps79
  go_wp2_with fail
  refine (within_any _ _ _ _).mono ?_
  rintro e w' ⟨rfl, rfl⟩
  go_wp2_with fail
  go_ret
  exact ⟨rfl, rfl⟩
theorem callPos : CallableF 79 := fun _ _ => by kernel_rfl
set_option maxHeartbeats 1000000 in
theorem isPosition_any {p : List Int} {S : Nat → Prop} {v : Value} {w : World} (h : D.rd S w v (slOf intE p)) : Calls Tryd.prog 61 #[v] w fun e w' => e = .returned (.bool (posOk p)) ∧ w = w' := by
  have hq := containsFuncI _ callPos (fun k => !inB k 0 3) p (fun k _ => isPos1_any k w) h
  obtain ⟨a, cap, rfl, hlen, hcap⟩ := slOf_form h
  have HO : Hid (posOk p = (decide (p.length ≤ 8) && !(p.any fun k => !inB k 0 3))) := rfl
  by_cases h8 : p.length ≤ 8
  · have h8' : (p.length : Int) ≤ 8 := by omega
    have HO2 : Hid (posOk p = !(p.any fun k => !inB k 0 3)) := by rw [Hid, HO.out]; simp [h8]
    go_enter Tryd.func61, Tryd.ntmps61
    go_wp2_with fail
    refine hq.mono ?_
    rintro e w' ⟨rfl, rfl⟩
    generalize (p.any fun k => !inB k 0 3) = b at *
    cases b
    all_goals
      go_wp2_with fail
      go_ret
      exact ⟨ret_bool (by rw [HO2.out]; rfl), rfl⟩
  · have h8' : ¬ (p.length : Int) ≤ 8 := by omega
    have HO2 : Hid (posOk p = false) := by rw [Hid, HO.out]; simp [h8]
    go_enter Tryd.func61, Tryd.ntmps61
    go_wp2_with fail
    go_ret
    exact ⟨ret_bool (by rw [HO2.out]), rfl⟩
set_option maxHeartbeats 1000000 in
theorem l3Place_any {p : List Int} {S : Nat → Prop} {v : Value} {w : World} (h : D.rd S w v (slOf intE p)) : Calls Tryd.prog 59 #[v] w fun e w' => e = .returned (.bool (posOk p)) ∧ w = w' := by
  obtain ⟨a, cap, rfl, hlen, hcap⟩ := slOf_form h
  unfold big at hlen
  have HO : Hid (posOk p = (decide (p.length ≤ 8) && !(p.any fun k => !inB k 0 3))) := rfl
  go_enter Tryd.func59, Tryd.ntmps59
  go_wp2_with fail
  go_loop [3] (fun i => ∃ k : Nat, k ≤ p.length ∧ i = .int .i64 k ∧ Hid ((p.take k).any (fun k => !inB k 0 3) = false)) (fun i => p.length - (intOf i).toNat)
  case atStart => exact ⟨0, Nat.zero_le _, rfl, by simp [Hid]⟩
  case round =>
    obtain ⟨k, hk, rfl, HX⟩ := hrel
    by_cases hlt : k < p.length
    · have hne : p ≠ [] := by intro e; subst e; simp at hlt
      obtain ⟨b, off, rfl, hS, hbl, hrr⟩ := ints_get h hne
      obtain ⟨q0, q1⟩ := hrr k hlt
      clear hrr
      by_cases hp : inB p[k] 0 3 = true
      · have HF : Hid ((p.take (k + 1)).any (fun k => !inB k 0 3) = false) := by
          rw [Hid, List.take_succ_eq_append_getElem hlt, List.any_append, HX.out]; simp [hp]
        go_wp2_with fail
        refine (l1In_any _ _ _ _).mono ?_
        rintro e w' ⟨rfl, rfl⟩
        rw [hp]
        clear hp
        go_wp2_with fail
        go_round
        case rel => exact ⟨k + 1, by omega, by go_num, HF⟩
        case measure => simp [intOf]; omega
      · have HF : Hid (posOk p = false) := by
          rw [Hid, HO.out]
          have : p.any (fun k => !inB k 0 3) = true := List.any_eq_true.2 ⟨_, List.getElem_mem hlt, by simp [hp]⟩
          rw [this]; simp
        go_wp2_with fail
        refine (l1In_any _ _ _ _).mono ?_
        rintro e w' ⟨rfl, rfl⟩
        rw [Bool.eq_false_iff.2 hp]
        clear hp
        go_wp2_with fail
        go_ret
        exact ⟨ret_bool HF.out.symm, rfl⟩
    · obtain rfl : k = p.length := by omega
      have HF : Hid (posOk p = decide (p.length ≤ 8)) := by
        have := HX.out
        rw [List.take_length] at this
        rw [Hid, HO.out, this]; simp
      go_wp2_with fail
      go_ret
      exact ⟨ret_bool (by rw [HF.out, Bool.eq_iff_iff]; simp; omega), rfl⟩
set_option maxHeartbeats 2000000 in
theorem formatPosition_any {p : List Int} (hp : ∀ k ∈ p, -999999 ≤ k ∧ k ≤ 999999) (hl : p.length ≤ 1048576) {S : Nat → Prop} {v : Value} {w : World} (hT : TabF w) (h : D.rd S w v (slOf intE p)) : Calls Tryd.prog 62 #[v] w (Gives w (.string (bs (posList p)))) := by
  obtain ⟨a, cap, rfl, hlen, hcap⟩ := slOf_form h
  by_cases hne : p = []
  · have HP : Hid (posList p = [45]) := by rw [Hid, posList, if_pos hne]
    have hl0 : ((p.length : Int) == 0) = true := by rw [hne]; rfl
    clear hne
    go_enter Tryd.func62, Tryd.ntmps62
    go_wp2_with fail
    go_ret
    exact Gives.mk (by rw [HP.out]; rfl) (Below.refl _ _)
  · have HP : Hid (posList p = dotted p) := by rw [Hid, posList, if_neg hne]
    have hl0 : ((p.length : Int) == 0) = false := by rw [beq_eq_false_iff_ne]; intro e; exact hne (List.length_eq_zero_iff.1 (by omega))
    have HN := hid hne
    clear hne
    go_enter Tryd.func62, Tryd.ntmps62
    go_wp2_with fail
    clear hl0
    go_loopw [3, 12] (fun x i wr => ∃ k : Nat, k ≤ p.length ∧ i = .int .i64 k ∧ Hid (Row wr w.heap.size x ((p.take k).map fun k => bs (Lib.itoa k))) ∧ Below w.heap.size w wr) (fun _ i _ => p.length - (intOf i).toNat)
    case atStart => exact ⟨0, Nat.zero_le _, rfl, by rw [List.take_zero]; exact Row.made w (Nat.le_refl _), (Below.refl _ _).alloc (Nat.le_refl _) _⟩
    case round =>
      obtain ⟨k, hk, rfl, HR, hb⟩ := hrel
      have hbz := hb.size
      by_cases hlt : k < p.length
      · obtain ⟨b, off, rfl, hS, hbl, hrr⟩ := ints_get h HN.out
        obtain ⟨q0, -⟩ := hrr k hlt
        replace q0 := (hb.cell (p := ⟨b, off + k, none⟩) hbl).trans q0
        clear hrr
        have hin := hp p[k] (List.getElem_mem hlt)
        have hlz := (itoa_len hin.1 hin.2).2
        obtain ⟨L0, HL0⟩ : ∃ L0, Hid (((p.take k).map fun k => bs (Lib.itoa k)) = L0) := ⟨_, hid rfl⟩
        have HL : Hid (L0.length = k) := by rw [Hid, ← HL0.out, List.length_map, List.length_take]; omega
        rw [HL0.out] at HR
        obtain ⟨a2, cap2, rfl, -, -⟩ := HR.out.form
        go_wp2_with fail
        refine (itoa_any hin.1 hin.2 (TabF.keep hT hb)).mono ?_
        rintro e w2 ⟨_, rfl, hb2, rfl⟩
        have hA : Below w2.heap.size w2 (w2.alloc (.cells #[.string (itoaB p[k])] 9)) := (Below.refl _ _).alloc (Nat.le_refl _) _
        have hbz2 := hb2.size
        have hyz : (itoaB p[k]).size ≤ maxLen := by rw [itoaB_bs, bs_size]; unfold maxLen; omega
        go_wp2_with (at_builtin; refine wpList_append_str (y := itoaB p[k]) rfl _ _ rfl (by rfl) (by rfl) ((HR.out.keep hb2).keep hA) hyz (by rw [box1]; rfl) (by have := HL.out; omega) (by rw [World.size_alloc]; omega) ?_; intro g cap3 w3 hrow3 hgr hgo hlt3)
        have hb4 : Below w.heap.size w w3 := ((hb.trans (hb2.mono hbz)).trans (hA.mono (by omega))).grown hgr (by rw [World.size_alloc]; omega) fun j hj => (HR.out.lt j hj).1
        have HR3 : Hid (Row w3 w.heap.size (.slice (some ⟨g, 0, none⟩) (L0.length + 1) cap3) ((p.take (k + 1)).map fun k => bs (Lib.itoa k))) := by
          rw [Hid, List.take_succ_eq_append_getElem hlt, List.map_append, List.map_cons, List.map_nil, HL0.out]; exact hrow3
        clear hgr hgo hlt3 hrow3
        go_roundw
        case rel => exact ⟨k + 1, by omega, by go_num, HR3, hb4⟩
        case measure => simp [intOf]; omega
      · obtain rfl : k = p.length := by omega
        have hr := HR.out
        rw [List.take_length, show (p.map fun k => bs (Lib.itoa k)) = (p.map Lib.itoa).map bs from by rw [List.map_map]; rfl] at hr
        have hd := dotted_len p hp p.length (Nat.le_refl _)
        rw [List.take_length] at hd
        have hq := join_any [46] hr (by unfold dotted at hd; omega) (by rw [List.length_map]; omega)
        go_wp2_with fail
        refine hq.mono ?_
        rintro e w2 ⟨_, rfl, hb2, rfl⟩
        go_wp2_with fail
        go_ret
        exact Gives.mk (by rw [HP.out]; rfl) (hb.trans (hb2.mono hbz))
set_option maxHeartbeats 2000000 in
theorem l3Position_any {p : List Int} (hp : ∀ k ∈ p, -999999 ≤ k ∧ k ≤ 999999) (hl : p.length ≤ 1048576) {S : Nat → Prop} {v : Value} {w : World} (h : D.rd S w v (slOf intE p)) : Calls Tryd.prog 60 #[v] w (Gives w (.string (bs (posList p)))) := by
  obtain ⟨a, cap, rfl, hlen, hcap⟩ := slOf_form h
  go_enter Tryd.func60, Tryd.ntmps60
  go_wp2_with fail
  go_loopw [3, 4] (fun x i wr => ∃ (k : Nat) (l : List UInt8), k ≤ p.length ∧ i = .int .i64 k ∧ x = .string (bs l) ∧ Hid (l = dotted (p.take k)) ∧ l.length ≤ k * 8 ∧ Below w.heap.size w wr) (fun _ i _ => p.length - (intOf i).toNat)
  case atStart => exact ⟨0, [], Nat.zero_le _, rfl, rfl, by rw [Hid, List.take_zero, dotted, List.map_nil, Lib.join_nil], Nat.zero_le _, Below.refl _ _⟩
  case round =>
    obtain ⟨k, l, hk, rfl, rfl, HL, hll, hb⟩ := hrel
    by_cases hlt : k < p.length
    · have hne : p ≠ [] := by intro e; subst e; simp at hlt
      obtain ⟨b, off, rfl, hS, hbl, hrr⟩ := ints_get h hne
      obtain ⟨q0, -⟩ := hrr k hlt
      replace q0 := (hb.cell (p := ⟨b, off + k, none⟩) hbl).trans q0
      clear hrr
      have hin := hp p[k] (List.getElem_mem hlt)
      have hlz := (itoa_len hin.1 hin.2).2
      have HS := hid (dotted_succ p k hlt)
      have hiz : (itoaB p[k]).size = (Lib.itoa p[k]).length := by rw [itoaB_bs, bs_size]
      have hbz1 : (bs l).size = l.length := bs_size l
      have HD := hid (dotted_len p hp (k + 1) (by omega))
      by_cases h0 : k = 0
      · have HL2 : Hid (itoaB p[k] = bs (dotted (p.take (k + 1)))) := by rw [Hid, HS.out, if_pos h0]; rfl
        have HLE : Hid (l = []) := by rw [Hid, HL.out, h0, List.take_zero, dotted, List.map_nil, Lib.join_nil]
        have h0' : ¬ (0 : Int) < k := by omega
        have HJ : Hid (bs l ++ itoaB p[k] = bs (dotted (p.take (k + 1)))) := by rw [Hid, HLE.out, ← HL2.out, itoaB_bs, bs_append]; rfl
        clear h0
        go_wp2_with fail
        refine (l1Num_any p[k] hin.1 hin.2 _).mono ?_
        rintro e w2 ⟨_, rfl, hb2, rfl⟩
        have hz4 : ¬ 9223372036854775807 < (bs l).size + (itoaB p[k]).size := by omega
        go_wp2_with fail
        go_roundw
        case rel => exact ⟨k + 1, dotted (p.take (k + 1)), by omega, by go_num, by rw [HJ.out], hid rfl, HD.out, hb.trans (hb2.mono hb.size)⟩
        case measure => simp [intOf]; omega
      · have h0' : (0 : Int) < k := by omega
        have HJ : Hid (bs l ++ ⟨#[46]⟩ ++ itoaB p[k] = bs (dotted (p.take (k + 1)))) := by
          rw [Hid, HS.out, if_neg h0, ← HL.out, ← bs_append, ← bs_append]; rfl
        clear h0
        go_wp2_with fail
        refine (l1Num_any p[k] hin.1 hin.2 _).mono ?_
        rintro e w2 ⟨_, rfl, hb2, rfl⟩
        have hz4 : ¬ 9223372036854775807 < (bs l).size + 1 + (itoaB p[k]).size := by omega
        go_wp2_with fail
        go_roundw
        case rel => exact ⟨k + 1, dotted (p.take (k + 1)), by omega, by go_num, by rw [HJ.out], hid rfl, HD.out, hb.trans (hb2.mono hb.size)⟩
        case measure => simp [intOf]; omega
    · obtain rfl : k = p.length := by omega
      have HL2 : Hid (l = dotted p) := by have := HL.out; rwa [List.take_length] at this
      by_cases hne : p = []
      · have HP : Hid (posList p = [45]) := by rw [Hid, posList, if_pos hne]
        have HE : l = [] := by rw [HL2.out, hne]; rfl
        subst HE
        have hq : ((bs []).toList == ([] : List UInt8)) = true := by decide +kernel
        go_wp2_with fail
        go_ret
        exact Gives.mk (by rw [HP.out]; rfl) hb
      · have HP : Hid (posList p = l) := by rw [Hid, posList, if_neg hne, HL2.out]
        have hpz := List.length_pos_iff.2 hne
        have h1 := dotted_pos p hp (p.length - 1) (by omega)
        rw [show p.length - 1 + 1 = p.length by omega, List.take_length, ← HL2.out] at h1
        have hq : ((bs l).toList == ([] : List UInt8)) = false := by
          rw [beq_eq_false_iff_ne]; intro e
          rw [ByteArray.toList_eq] at e
          have := congrArg List.length e
          rw [bs_list] at this
          simp at this; rw [this] at h1; simp at h1
        clear hne
        go_wp2_with fail
        go_ret
        exact Gives.mk (by rw [HP.out]; rfl) hb
set_option maxHeartbeats 1000000 in
theorem spec_FormatPosition {p : List Int} (hl : p.length ≤ 1048576) {S : Nat → Prop} {v : Value} {w : World} (h : D.rd S w v (slOf intE p)) : Calls Tryd.prog 25 #[v] w (Gives w (.tuple #[.string (fpR p), .bool (posOk p)])) := by
  by_cases hk : posOk p = true
  · have HR : Hid (fpR p = bs (posList p)) := by rw [Hid, fpR, if_pos hk]
    have hq := l3Position_any (pos_in hk) hl h
    have HO := hid hk
    clear hk
    obtain ⟨a, cap, rfl, -, -⟩ := slOf_form h
    go_enter Tryd.func25, Tryd.ntmps25
    go_wp2_with fail
    refine (l3Place_any h).mono ?_
    rintro e w' ⟨rfl, rfl⟩
    rw [HO.out]
    go_wp2_with fail
    refine hq.mono ?_
    rintro e w2 ⟨_, rfl, hb, rfl⟩
    go_wp2_with fail
    go_ret2
    exact Gives.mk (by rw [HR.out, HO.out]; rfl) hb
  · have HR : Hid (fpR p = ByteArray.empty) := by rw [Hid, fpR, if_neg hk]
    have HO := hid (Bool.eq_false_iff.2 hk)
    clear hk
    obtain ⟨a, cap, rfl, -, -⟩ := slOf_form h
    go_enter Tryd.func25, Tryd.ntmps25
    go_wp2_with fail
    refine (l3Place_any h).mono ?_
    rintro e w' ⟨rfl, rfl⟩
    rw [HO.out]
    go_wp2_with fail
    go_ret2
    exact Gives.mk (by rw [HR.out, HO.out]; rfl) (Below.refl _ _)
set_option maxHeartbeats 1000000 in
theorem impl_FormatPosition {p : List Int} (hl : p.length ≤ 1048576) {S : Nat → Prop} {v : Value} {w : World} (hT : TabF w) (h : D.rd S w v (slOf intE p)) : Calls Tryd.prog 27 #[v] w (Gives w (.tuple #[.string (fpR p), .bool (posOk p)])) := by
  by_cases hk : posOk p = true
  · have HR : Hid (fpR p = bs (posList p)) := by rw [Hid, fpR, if_pos hk]
    have hq := formatPosition_any (pos_in hk) hl hT h
    have HO := hid hk
    clear hk
    obtain ⟨a, cap, rfl, -, -⟩ := slOf_form h
    go_enter Tryd.func27, Tryd.ntmps27
    go_wp2_with fail
    refine (isPosition_any h).mono ?_
    rintro e w' ⟨rfl, rfl⟩
    rw [HO.out]
    go_wp2_with fail
    refine hq.mono ?_
    rintro e w2 ⟨_, rfl, hb, rfl⟩
    go_wp2_with fail
    go_ret2
    exact Gives.mk (by rw [HR.out, HO.out]; rfl) hb
  · have HR : Hid (fpR p = ByteArray.empty) := by rw [Hid, fpR, if_neg hk]
    have HO := hid (Bool.eq_false_iff.2 hk)
    clear hk
    obtain ⟨a, cap, rfl, -, -⟩ := slOf_form h
    go_enter Tryd.func27, Tryd.ntmps27
    go_wp2_with fail
    refine (isPosition_any h).mono ?_
    rintro e w' ⟨rfl, rfl⟩
    rw [HO.out]
    go_wp2_with fail
    go_ret2
    exact Gives.mk (by rw [HR.out, HO.out]; rfl) (Below.refl _ _)
end Go.Proofs.YtgbfcaehijpgcaaDoor
