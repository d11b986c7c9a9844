/- The program and the reference tell valid terms: names and numbers of arguments. -/
import Derived.Test.YtooocakkjdhfiaaDoorTs
import Derived.Test.YtooocakkjdhfiaaDoorNm
import Derived.Test.YtooocakkjdhfiaaDoorNs
namespace Go.Proofs.YtooocakkjdhfiaaDoor
set_option maxRecDepth 100000
open Go.RowKit

/-- f tells whether p holds of a term -/
def PredIs (f : FuncId) (p : Tm → Bool) (t : Tm) : Prop := ∀ ⦃S : Nat → Prop⦄ ⦃c0 c1 : Value⦄ ⦃w : World⦄, Tm.at S w c0 c1 t → t.bulk ≤ 1048576 → Calls Tryd.prog f #[.agg #[c0, c1]] w (Gives w (.bool (p t)))

theorem Tm.bulk_at {ts : List Tm} {k : Nat} (hk : k < ts.length) : ts[k].bulk ≤ Tm.bulks ts := Tm.bulk_mem (List.getElem_mem hk)

/-- function f has a body: a call of its value enters it -/
def Callable (f : FuncId) : Prop := ∀ (args : Array Value) (w : World), Sem.run Tryd.prog (callFunc f args) w = .ok (.enter f args) w

/-- r tells whether p holds of some term of the list -/
def FoundT (ts : List Tm) (p : Tm → Bool) (w : World) (e : Ending) (w' : World) : Prop := ∃ r : Int, e = .returned (.int .i64 r) ∧ ((0 ≤ r ∧ ts.any p = true) ∨ (r < 0 ∧ ts.any p = false)) ∧ Below w.heap.size w w'

set_option maxHeartbeats 400000 in
theorem indexFuncT (f : FuncId) (hcf : Callable f) (p : Tm → Bool) (ts : List Tm) (h : ∀ t ∈ ts, PredIs f p t) {S : Nat → Prop} {v : Value} {w : World} (hs : D.rd S w v (Tm.sd ts)) (hbk : Tm.bulks ts ≤ 1048576) :
    Calls Tryd.prog 53 #[v, .func (.func f) #[] #[]] w (FoundT ts p w) := by
  obtain ⟨a, cap, rfl, hlen, hcap⟩ := Tm.sd_form hs
  unfold big at hlen
  go_enter Tryd.func53, Tryd.ntmps53
  go_wp2_with fail
  go_loopw [8] (fun i wr => ∃ k : Nat, k ≤ ts.length ∧ i = .int .i64 k ∧ Hid ((ts.take k).any p = false) ∧ Below w.heap.size w wr) (fun i _ => ts.length - (intOf i).toNat)
  case atStart => exact ⟨0, Nat.zero_le _, rfl, by simp [Hid], Below.refl _ _⟩
  case round =>
    obtain ⟨k, hk, rfl, HX, hb⟩ := hrel
    have hbw := hb
    by_cases hlt : k < ts.length
    · have hne : ts ≠ [] := by intro e; subst e; simp at hlt
      obtain ⟨b, off, rfl, hS, hbl, hrr⟩ := Tm.sd_get hs hne
      obtain ⟨c0, c1, q0, q1, q2⟩ := hrr k hlt
      obtain ⟨rfl, -, x, xc, rfl⟩ := Tm.at_form q2
      replace q0 := (hbw.cell (p := ⟨b, off + k * 2, none⟩) hbl).trans q0
      replace q1 := (hbw.cell (p := ⟨b, off + k * 2 + 1, none⟩) hbl).trans q1
      replace q2 := Tm.at_keep (Keeps.all hbw) q2
      have hmem := h ts[k] (List.getElem_mem hlt)
      clear hs hrr
      have hbm : ts[k].bulk ≤ 1048576 := Nat.le_trans (Tm.bulk_at hlt) hbk
      unfold Callable at hcf
      go_wp2_with fail
      refine (hmem q2 hbm).mono ?_
      rintro e w2 ⟨_, rfl, hb2, rfl⟩
      by_cases hp : p ts[k] = true
      · have HF : Hid (ts.any p = true) := List.any_eq_true.2 ⟨_, List.getElem_mem hlt, hp⟩
        rw [hp]
        clear hp
        go_wp2_with fail
        go_ret
        exact ⟨k, rfl, .inl ⟨by omega, HF.out⟩, hb.trans (hb2.mono hb.size)⟩
      · have HF : Hid ((ts.take (k + 1)).any p = false) := by
          rw [Hid, List.take_succ_eq_append_getElem hlt, List.any_append, HX.out]; simpa using hp
        rw [Bool.eq_false_iff.2 hp]
        clear hp
        go_wp2_with fail
        go_roundw
        case rel => exact ⟨k + 1, by omega, by go_num, HF, hb.trans (hb2.mono hb.size)⟩
        case measure => simp [intOf]; omega
    · obtain rfl : k = ts.length := by omega
      have HF : Hid (ts.any p = false) := by have := HX.out; rwa [List.take_length] at this
      go_wp2_with fail
      go_ret
      exact ⟨-1, rfl, .inr ⟨by omega, HF.out⟩, hb⟩

set_option maxHeartbeats 400000 in
theorem containsFuncT (f : FuncId) (hcf : Callable f) (p : Tm → Bool) (ts : List Tm) (h : ∀ t ∈ ts, PredIs f p t) {S : Nat → Prop} {v : Value} {w : World} (hs : D.rd S w v (Tm.sd ts)) (hbk : Tm.bulks ts ≤ 1048576) :
    Calls Tryd.prog 42 #[v, .func (.func f) #[] #[]] w (Gives w (.bool (ts.any p))) := by
  go_enter Tryd.func42, Tryd.ntmps42
  go_wp2_with fail
  refine (indexFuncT f hcf p ts h hs hbk).mono ?_
  rintro e w' ⟨r, rfl, hr, hb⟩
  rcases hr with ⟨h0, h1⟩ | ⟨h0, h1⟩
  · have H := hid h1
    clear h1
    go_wp2_with fail
    go_ret
    exact Gives.mk (ret_bool H.out.symm) hb
  · have H := hid h1
    clear h1
    go_wp2_with fail
    go_ret
    exact Gives.mk (ret_bool (by rw [H.out]; simp; omega)) hb

set_option maxHeartbeats 400000 in
theorem hasNames1_of {t : Tm} (h : PredIs 26 Tm.names t) : PredIs 43 (fun t => !t.names) t := by
  intro S c0 c1 w hT hbk
  obtain ⟨rfl, hn, a, cap, rfl⟩ := Tm.at_form hT
  have hW : Below w.heap.size w (w.alloc (.cells #[.string t.name, .slice a t.args.length cap] 28)) := (Below.refl _ _).alloc (Nat.le_refl _) _
  have bT : Box (w.alloc (.cells #[.string t.name, .slice a t.args.length cap] 28)) w.heap.size [.string t.name, .slice a t.args.length cap] := Box.new w _ _
  replace hT := Tm.at_keep (Keeps.all hW) hT
  go_enter Tryd.func43, Tryd.ntmps43
  go_wp2_with fail
  generalize (w.alloc (.cells #[.string t.name, .slice a t.args.length cap] 28)) = w0 at *
  refine (h hT hbk).mono ?_
  rintro e w1 ⟨_, rfl, hb, rfl⟩
  replace hW := hW.trans (hb.mono hW.size)
  replace bT := bT.keep hb
  replace hT := Tm.at_keep (Keeps.all hb) hT
  clear hb
  have eT0 := bT.c0
  have eT1 := bT.c1
  have lT := bT.lt
  go_wp2_with fail
  clear eT0 eT1 lT
  go_ret
  exact Gives.mk rfl hW

theorem callable1 : Callable 43 := fun _ _ => by kernel_rfl

theorem Tm.any_names (ts : List Tm) : ts.any (fun t => !t.names) = !Tm.namesAll ts := by
  rw [Bool.eq_iff_iff]
  simp only [List.any_eq_true, Bool.not_eq_true', Bool.eq_false_iff, Ne, Tm.namesAll_iff]
  constructor
  · rintro ⟨t, ht, hn⟩ h; exact hn (h t ht)
  · intro h
    refine Classical.byContradiction fun hc => h fun t ht => Classical.byContradiction fun hn => hc ⟨t, ht, hn⟩

set_option maxHeartbeats 1000000 in
theorem hasNames_of (n : ByteArray) (ts : List Tm) (h : ∀ t ∈ ts, PredIs 26 Tm.names t) : PredIs 26 Tm.names (.node n ts) := by
  intro S c0 c1 w hT hbk
  generalize ht : Tm.node n ts = t at *
  obtain ⟨rfl, hn, a, cap, rfl⟩ := Tm.at_form hT
  have hW : Below w.heap.size w (w.alloc (.cells #[.string t.name, .slice a t.args.length cap] 28)) := (Below.refl _ _).alloc (Nat.le_refl _) _
  have bT : Box (w.alloc (.cells #[.string t.name, .slice a t.args.length cap] 28)) w.heap.size [.string t.name, .slice a t.args.length cap] := Box.new w _ _
  replace hT := Tm.at_keep (Keeps.all hW) hT
  go_enter Tryd.func26, Tryd.ntmps26
  go_wp2_with fail
  generalize (w.alloc (.cells #[.string t.name, .slice a t.args.length cap] 28)) = w0 at *
  subst ht
  simp only [Tm.name, Tm.args] at *
  by_cases hv : varName n = true
  · have HN : Hid (Tm.names (.node n ts) = ts.isEmpty) := by rw [Hid, Tm.names, if_pos hv]
    refine (isVariable_any n hn _).mono ?_
    rintro e w' ⟨rfl, rfl⟩
    rw [hv]
    have eT0 := bT.c0
    have eT1 := bT.c1
    go_wp2_with fail
    go_ret
    exact Gives.mk (ret_bool (by rw [HN.out]; cases ts <;> simp; omega)) hW
  · replace hv : varName n = false := by simpa using hv
    have HN : Hid (Tm.names (.node n ts) = (symName n && decide (ts.length ≤ 4) && Tm.namesAll ts)) := by rw [Hid, Tm.names, hv]; rfl
    refine (isVariable_any n hn _).mono ?_
    rintro e w' ⟨rfl, rfl⟩
    rw [hv]
    clear hv
    have eT0 := bT.c0
    have eT1 := bT.c1
    go_wp2_with fail
    clear eT0 eT1
    refine (isSymbol_any n hn _).mono ?_
    rintro e w1 ⟨_, rfl, hb, rfl⟩
    replace hW := hW.trans (hb.mono hW.size)
    replace bT := bT.keep hb
    replace hT := Tm.at_keep (Keeps.all hb) hT
    clear hb
    have eT0 := bT.c0
    have eT1 := bT.c1
    by_cases hsy : symName n = true
    · by_cases h4 : ts.length ≤ 4
      · have HM : Hid (Tm.names (.node n ts) = Tm.namesAll ts) := by rw [Hid, HN.out, hsy]; simp [h4]
        have h4' : ((ts.length : Int) ≤ 4) := by omega
        rw [hsy]
        clear hsy
        go_wp2_with fail
        clear eT0 eT1
        refine (containsFuncT 43 callable1 (fun t => !t.names) ts (fun t ht => hasNames1_of (h t ht)) hT.2 (by rw [Tm.bulk] at hbk; omega)).mono ?_
        rintro e w2 ⟨_, rfl, hb, rfl⟩
        rw [Tm.any_names]
        go_wp2_with fail
        go_ret
        exact Gives.mk (ret_bool (by rw [HM.out])) (hW.trans (hb.mono hW.size))
      · have HM : Hid (Tm.names (.node n ts) = false) := by rw [Hid, HN.out]; simp [h4]
        have h4' : ¬ ((ts.length : Int) ≤ 4) := by omega
        rw [hsy]
        clear hsy
        go_wp2_with fail
        go_ret
        exact Gives.mk (ret_bool HM.out.symm) hW
    · replace hsy : symName n = false := by simpa using hsy
      have HM : Hid (Tm.names (.node n ts) = false) := by rw [Hid, HN.out, hsy]; rfl
      rw [hsy]
      clear hsy
      go_wp2_with fail
      go_ret
      exact Gives.mk (ret_bool HM.out.symm) hW
theorem hasNames_any (t : Tm) : PredIs 26 Tm.names t := Tm.ind (P := fun t => PredIs 26 Tm.names t) (fun n ts h => hasNames_of n ts h) t

set_option maxHeartbeats 1000000 in
theorem l2Nodes_of (n : ByteArray) (ts : List Tm) (h : ∀ t ∈ ts, PredIs 21 Tm.names t) : PredIs 21 Tm.names (.node n ts) := by
  intro S c0 c1 w hr hbk
  obtain ⟨rfl, hn, a, cap, rfl⟩ := Tm.at_form hr
  have hs := hr.2
  simp only [Tm.name, Tm.args] at hs hn ⊢
  clear hr
  obtain ⟨a', cap', he, hlen, hcap⟩ := Tm.sd_form hs
  injection he with e0 e1 e2
  subst e0 e2
  clear e1
  unfold big at hlen
  by_cases hv : varName n = true
  · have HN : Hid (Tm.names (.node n ts) = ts.isEmpty) := by rw [Hid, Tm.names, if_pos hv]
    go_enter Tryd.func21, Tryd.ntmps21
    go_wp2_with (first | (go_at_call 22; refine (l2Var_any _ hn _).mono ?_; rintro e w' ⟨rfl, rfl⟩; rw [hv]))
    go_ret
    exact Gives.mk (ret_bool (by rw [HN.out]; cases ts <;> simp; omega)) ((Below.refl _ _).alloc (Nat.le_refl _) _)
  · replace hv : varName n = false := by simpa using hv
    have HN : Hid (Tm.names (.node n ts) = (symName n && decide (ts.length ≤ 4) && Tm.namesAll ts)) := by rw [Hid, Tm.names, hv]; rfl
    by_cases hsy : symName n = true
    · by_cases h4 : ts.length ≤ 4
      · have HM : Hid (Tm.names (.node n ts) = Tm.namesAll ts) := by rw [Hid, HN.out, hsy]; simp [h4]
        have h4' : ¬ ((4 : Int) < (ts.length : Int)) := by omega
        go_enter Tryd.func21, Tryd.ntmps21
        go_wp2_with (first | (go_at_call 22; refine (l2Var_any _ hn _).mono ?_; rintro e w' ⟨rfl, rfl⟩; rw [hv]) | (go_at_call 35; refine (l2Symbol_any _ hn _).mono ?_; rintro e w' ⟨rfl, rfl⟩; rw [hsy]))
        clear h4'
        go_loopw [3] (fun i wr => ∃ (k : Nat), k ≤ ts.length ∧ i = .int .i64 k ∧ Hid (Tm.namesAll (ts.take k) = true) ∧ Below (w.heap.size + 1) (w.alloc (.cells #[.string n, .slice a ts.length cap] 28)) wr) (fun i _ => ts.length - (intOf i).toNat)
        case atStart => exact ⟨0, Nat.zero_le _, rfl, by simp [Hid, Tm.namesAll], Below.refl _ _⟩
        case round =>
          obtain ⟨k, hk, rfl, HX, hb⟩ := hrel
          have hbw : Below w.heap.size w wr := ((Below.refl _ _).alloc (Nat.le_refl _) _).trans (hb.mono (by omega))
          have hz := hb.size
          simp only [World.size_alloc] at hz
          have hz0 : w.heap.size < wr.heap.size := by omega
          have e10 : wr.cell? ⟨w.heap.size, 0, none⟩ = some (.string n) := (hb.cell (by simp)).trans (box1 _ _ _ _)
          have e11 : wr.cell? ⟨w.heap.size, 1, none⟩ = some (.slice a ts.length cap) := (hb.cell (by simp)).trans (box1 _ _ _ _)
          by_cases hlt : k < ts.length
          · have hne : ts ≠ [] := by intro e; subst e; simp at hlt
            obtain ⟨b, off, rfl, hS, hbl, hrr⟩ := Tm.sd_get hs hne
            obtain ⟨c0, c1, q0, q1, q2⟩ := hrr k hlt
            obtain ⟨rfl, -, x, xc, rfl⟩ := Tm.at_form q2
            replace q0 := (hbw.cell (p := ⟨b, off + k * 2, none⟩) hbl).trans q0
            replace q1 := (hbw.cell (p := ⟨b, off + k * 2 + 1, none⟩) hbl).trans q1
            replace q2 := Tm.at_keep (Keeps.all hbw) q2
            have hmem := h ts[k] (List.getElem_mem hlt)
            clear hs hrr
            have hst := hid (Tm.namesAll_take ts k hlt)
            have hno := hid (fun hn => Tm.namesAll_no (List.getElem_mem hlt) hn : Tm.names ts[k] = false → Tm.namesAll ts = false)
            have hbm : ts[k].bulk ≤ 1048576 := Nat.le_trans (Tm.bulk_at hlt) (by rw [Tm.bulk] at hbk; omega)
            go_wp2_with fail
            refine (hmem q2 hbm).mono ?_
            rintro e w2 ⟨_, rfl, hb3, rfl⟩
            by_cases hp : Tm.names ts[k] = true
            · have HS : Hid (Tm.namesAll (ts.take (k + 1)) = true) := by rw [Hid, hst.out, HX.out, hp]; rfl
              rw [hp]
              clear hp
              go_wp2_with fail
              go_roundw
              case rel => exact ⟨k + 1, by omega, by go_num, HS, hb.trans (hb3.mono hz)⟩
              case measure => simp [intOf]; omega
            · replace hp : Tm.names ts[k] = false := by simpa using hp
              have HS := hid (hno.out hp)
              rw [hp]
              clear hp
              go_wp2_with fail
              go_ret
              exact Gives.mk (ret_bool (by rw [HM.out, HS.out])) (hbw.trans (hb3.mono hbw.size))
          · obtain rfl : k = ts.length := by omega
            have HS : Hid (Tm.names (.node n ts) = true) := by rw [Hid, HM.out]; have := HX.out; rwa [List.take_length] at this
            go_wp2_with fail
            go_ret
            exact Gives.mk (ret_bool HS.out.symm) hbw
      · have HM : Hid (Tm.names (.node n ts) = false) := by rw [Hid, HN.out]; simp [h4]
        have h4' : (4 : Int) < (ts.length : Int) := by omega
        go_enter Tryd.func21, Tryd.ntmps21
        go_wp2_with (first | (go_at_call 22; refine (l2Var_any _ hn _).mono ?_; rintro e w' ⟨rfl, rfl⟩; rw [hv]) | (go_at_call 35; refine (l2Symbol_any _ hn _).mono ?_; rintro e w' ⟨rfl, rfl⟩; rw [hsy]))
        go_ret
        exact Gives.mk (ret_bool HM.out.symm) ((Below.refl _ _).alloc (Nat.le_refl _) _)
    · replace hsy : symName n = false := by simpa using hsy
      have HM : Hid (Tm.names (.node n ts) = false) := by rw [Hid, HN.out, hsy]; rfl
      go_enter Tryd.func21, Tryd.ntmps21
      go_wp2_with (first | (go_at_call 22; refine (l2Var_any _ hn _).mono ?_; rintro e w' ⟨rfl, rfl⟩; rw [hv]) | (go_at_call 35; refine (l2Symbol_any _ hn _).mono ?_; rintro e w' ⟨rfl, rfl⟩; rw [hsy]))
      go_ret
      exact Gives.mk (ret_bool HM.out.symm) ((Below.refl _ _).alloc (Nat.le_refl _) _)
theorem l2Nodes_any (t : Tm) : PredIs 21 Tm.names t := Tm.ind (P := fun t => PredIs 21 Tm.names t) (fun n ts h => l2Nodes_of n ts h) t
end Go.Proofs.YtooocakkjdhfiaaDoor
