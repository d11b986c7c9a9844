/- Is a substitution a renaming? -/
import Derived.Test.YtiifibmahomdhaaSw
import Derived.Test.YtiifibmahomdhaaAp
import Derived.Test.YtiifibmahomdhaaCi
namespace Go.Proofs.Ytiifibmahomdhaa
set_option maxRecDepth 100000
open Go.RowKit

def Sb.names (t : Sb) : List ByteArray := t.bs.map (·.term.name)
/-- the first k terms are variables, no two equal -/
def Sb.renTo (t : Sb) (k : Nat) : Prop := (∀ n ∈ t.names.take k, varName n = true) ∧ (t.names.take k).Nodup
def Sb.ren (t : Sb) : Bool := decide ((∀ n ∈ t.names, varName n = true) ∧ t.names.Nodup)
def Sb.renR (t : Sb) : Bool := t.valid && t.ren
theorem Sb.names_length (t : Sb) : t.names.length = t.bs.length := by simp [Sb.names]
theorem Sb.names_get {t : Sb} {k : Nat} (hk : k < t.bs.length) : t.names[k]'(by rw [Sb.names_length]; exact hk) = t.bs[k].term.name := by simp [Sb.names]
theorem Sb.names_take {t : Sb} {k : Nat} (hk : k < t.bs.length) : t.names.take (k + 1) = t.names.take k ++ [t.bs[k].term.name] := by
  rw [List.take_succ_eq_append_getElem (by rw [Sb.names_length]; exact hk), Sb.names_get hk]
theorem Sb.renTo_zero (t : Sb) : t.renTo 0 := by simp [Sb.renTo]
theorem Sb.renTo_succ {t : Sb} {k : Nat} (hk : k < t.bs.length) (h : t.renTo k) (hv : varName t.bs[k].term.name = true) (hn : t.bs[k].term.name ∉ t.names.take k) : t.renTo (k + 1) := by
  obtain ⟨h0, h1⟩ := h
  rw [Sb.renTo, Sb.names_take hk]
  refine ⟨fun n hm => ?_, ?_⟩
  · rcases List.mem_append.1 hm with q | q
    · exact h0 n q
    · simp at q; rw [q]; exact hv
  · rw [List.nodup_append]
    refine ⟨h1, by simp, fun a ha b hb e => ?_⟩
    simp at hb; subst hb; subst e; exact hn ha
theorem Sb.take_sub (t : Sb) (k : Nat) : t.names.take k <+: t.names := List.take_prefix _ _
theorem Sb.ren_var {t : Sb} {k : Nat} (hk : k < t.bs.length) (hv : varName t.bs[k].term.name = false) : t.ren = false := by
  rw [Sb.ren, decide_eq_false_iff_not]
  rintro ⟨h0, _⟩
  have := h0 t.bs[k].term.name ((Sb.take_sub t (k + 1)).subset (by rw [Sb.names_take hk]; simp))
  rw [hv] at this; exact absurd this (by simp)
theorem Sb.ren_twice {t : Sb} {k : Nat} (hk : k < t.bs.length) (hn : t.bs[k].term.name ∈ t.names.take k) : t.ren = false := by
  rw [Sb.ren, decide_eq_false_iff_not]
  rintro ⟨_, h1⟩
  have := h1.sublist (Sb.take_sub t (k + 1)).sublist
  rw [Sb.names_take hk, List.nodup_append] at this
  exact this.2.2 _ hn _ (by simp) rfl
theorem Sb.ren_yes {t : Sb} (h : t.renTo t.bs.length) : t.ren = true := by rw [Sb.ren, decide_eq_true_eq]; rw [Sb.renTo, ← Sb.names_length, List.take_length] at h; exact h
theorem toList_yes' {a b : ByteArray} (h : a = b) : (a.toList == b.toList) = true := by rw [h]; simp
theorem Sb.names_mem {t : Sb} {j k : Nat} (h : j < k) (hj : j < t.bs.length) : t.bs[j].term.name ∈ t.names.take k := by
  rw [List.mem_take_iff_getElem]
  exact ⟨j, by rw [Sb.names_length]; omega, Sb.names_get hj⟩
theorem Bnd.valid_terms {x : Sb} (h : x.valid = true) : ∀ b ∈ x.bs, b.term.valid = true := by
  intro b hb
  rw [Sb.valid, Bool.and_eq_true, Bnd.allOk, List.all_eq_true] at h
  obtain ⟨k, hk, rfl⟩ := List.mem_iff_getElem.1 hb
  have hf : x.bs[k].fits = true := by
    by_cases q : x.bs[k].fits = true
    · exact q
    · have := h.1 k (List.mem_range.2 hk)
      rw [Bnd.okAt_fits hk (by simpa using q)] at this; exact absurd this (by simp)
  rw [Bnd.fits, Bool.and_eq_true, Bool.and_eq_true] at hf
  exact hf.1.2
theorem Tm.valid_nice {t : Tm} (h : t.valid = true) : t.nice = true := Tm.expr_nice (by rw [Tm.expr, h]; rfl)

set_option maxHeartbeats 2000000 in
theorem impl_IsRenaming {t : Sb} {S : Nat → Prop} {c0 : Value} {w : World} (hT : Sb.at S w c0 t) (hbk : t.bulk ≤ 1048576) : Calls Try.prog 41 #[.agg #[c0]] w (Gives w (.tuple #[.bool t.renR, .bool t.valid])) := by
  by_cases h : t.valid = true
  · have HE := hid h
    have HR : Hid (t.renR = t.ren) := by rw [Hid, Sb.renR, h]; rfl
    have hva := Bnd.valid_terms h
    have hbk' := hbk
    rw [Sb.bulk] at hbk'
    have hlen : t.bs.length ≤ 1048576 := by omega
    obtain ⟨a, cap, rfl⟩ := Sb.at_form hT
    have hW : Below w.heap.size w (w.alloc (.cells #[.slice a t.bs.length cap] 50)) := (Below.refl _ _).alloc (Nat.le_refl _) _
    have bT : Box (w.alloc (.cells #[.slice a t.bs.length cap] 50)) w.heap.size [.slice a t.bs.length cap] := Box.new w _ _
    replace hT := Sb.at_keep (Keeps.all hW) hT
    go_enter Try.func41, Try.ntmps41
    go_wp2_with fail
    generalize (w.alloc (.cells #[.slice a t.bs.length cap] 50)) = w0 at *
    refine (impl_IsValidSubstitution hT hbk).mono ?_
    rintro e w1 ⟨_, rfl, hb, rfl⟩
    replace hW := hW.trans (hb.mono hW.size)
    replace bT := bT.keep hb
    replace hT := Sb.at_keep (Keeps.all hb) hT
    clear hb
    rw [h]
    have eT0 := bT.c0
    have lT := bT.lt
    go_wp2_with fail
    clear eT0 lT
    clear h
    rename World => w1
    have hz1 := hW.size
    have hA : Below w1.heap.size w1 (w1.alloc (.cells #[] 9)) := (Below.refl _ _).alloc (Nat.le_refl _) _
    go_loopw [4, 14] (fun v i wr => ∃ (k : Nat), k ≤ t.bs.length ∧ i = .int .i64 k ∧ Row wr w1.heap.size v (t.names.take k) ∧ Hid (t.renTo k) ∧ Below w1.heap.size w1 wr) (fun _ i _ => t.bs.length - (intOf i).toNat)
    case atStart => exact ⟨0, Nat.zero_le _, rfl, Row.made w1 (Nat.le_refl _), Sb.renTo_zero t, hA⟩
    case round =>
      obtain ⟨k, hk, rfl, hrow, HK, hb⟩ := hrel
      have hz := hb.size
      by_cases hlt : k < t.bs.length
      · have hne : t.bs ≠ [] := by intro e; rw [e] at hlt; simp at hlt
        obtain ⟨b, off, rfl, hS, hbl, hrr⟩ := Bnd.sd_get hT hne
        obtain ⟨c0, c1, c2, q0, q1, q2, qx⟩ := hrr k hlt
        obtain ⟨rfl, rfl, p, pc, rfl⟩ := Bnd.at_form qx
        replace q0 := (hb.cell (p := ⟨b, off + k * 3, none⟩) hbl).trans q0
        replace q1 := (hb.cell (p := ⟨b, off + k * 3 + 1, none⟩) hbl).trans q1
        replace q2 := (hb.cell (p := ⟨b, off + k * 3 + 2, none⟩) hbl).trans q2
        replace qx := Bnd.at_keep (Keeps.all hb) qx
        clear hrr
        have hni := Tm.valid_nice (hva _ (List.getElem_mem hlt))
        have hns : t.bs[k].term.name.size ≤ maxLen := (Tm.at_form (Bnd.at_term qx)).2.1
        have hnl : (t.names.take k).length = k := by rw [List.length_take, Sb.names_length]; omega
        have HT1 := hid (Sb.names_take hlt)
        have HNL := hid hnl
        clear hnl
        by_cases hv : varName t.bs[k].term.name = true
        · by_cases hn : hasStr (t.names.take k) t.bs[k].term.name = true
          · have HF : Hid (t.ren = false) := Sb.ren_twice hlt ((hasStr_iff _ _).1 hn)
            go_wp2_with fail
            have hA0 : Below wr.heap.size wr (wr.alloc (.cells #[.string t.bs[k].var, .string t.bs[k].term.name, .slice p t.bs[k].term.args.length pc] 97)) := (Below.refl _ _).alloc (Nat.le_refl _) _
            have bE : Box (wr.alloc (.cells #[.string t.bs[k].var, .string t.bs[k].term.name, .slice p t.bs[k].term.args.length pc] 97)) wr.heap.size [.string t.bs[k].var, .string t.bs[k].term.name, .slice p t.bs[k].term.args.length pc] := Box.new _ _ _
            refine (isVar_any hni (Tm.at_keep (Keeps.all hA0) (Bnd.at_term qx))).mono ?_
            rintro e w2 ⟨_, rfl, hb2, rfl⟩
            have hb3 := hA0.trans (hb2.mono hA0.size)
            replace bE := bE.keep hb2
            replace hrow := hrow.keep hb3
            rw [hv]
            have eE1 := bE.c1
            have lE := bE.lt
            go_wp2_with fail
            clear eE1 lE
            refine (containsStr_any t.bs[k].term.name hrow.rd).mono ?_
            rintro e w5 ⟨rfl, rfl⟩
            rw [hn]
            go_wp2_with fail
            go_ret2
            exact Gives.mk (by rw [HR.out, HE.out, HF.out]; rfl) (hW.trans ((hb.trans (hb3.mono hz)).mono hz1))
          · have HF : Hid (t.renTo (k + 1)) := Sb.renTo_succ hlt HK.out hv (fun q => hn ((hasStr_iff _ _).2 q))
            replace hn : hasStr (t.names.take k) t.bs[k].term.name = false := by simpa using hn
            go_wp2_with fail
            have hA0 : Below wr.heap.size wr (wr.alloc (.cells #[.string t.bs[k].var, .string t.bs[k].term.name, .slice p t.bs[k].term.args.length pc] 97)) := (Below.refl _ _).alloc (Nat.le_refl _) _
            have bE : Box (wr.alloc (.cells #[.string t.bs[k].var, .string t.bs[k].term.name, .slice p t.bs[k].term.args.length pc] 97)) wr.heap.size [.string t.bs[k].var, .string t.bs[k].term.name, .slice p t.bs[k].term.args.length pc] := Box.new _ _ _
            refine (isVar_any hni (Tm.at_keep (Keeps.all hA0) (Bnd.at_term qx))).mono ?_
            rintro e w2 ⟨_, rfl, hb2, rfl⟩
            have hb3 := hA0.trans (hb2.mono hA0.size)
            replace bE := bE.keep hb2
            replace hrow := hrow.keep hb3
            rw [hv]
            have eE1 := bE.c1
            have lE := bE.lt
            go_wp2_with fail
            clear eE1 lE
            refine (containsStr_any t.bs[k].term.name hrow.rd).mono ?_
            rintro e w5 ⟨rfl, rfl⟩
            rw [hn]
            have eE0 := bE.c1
            have hA2 : Below w2.heap.size w2 (w2.alloc (.cells #[.string t.bs[k].term.name] 9)) := (Below.refl _ _).alloc (Nat.le_refl _) _
            have hsz2 : w1.heap.size ≤ w2.heap.size := Nat.le_trans hz hb3.size
            go_wp2_with (at_builtin; refine wpList_append_str rfl _ _ rfl (by rfl) (by rfl) (hrow.keep hA2) hns (by rw [box1]; rfl) (by have := HNL.out; omega) (by rw [World.size_alloc]; omega) ?_; intro g cap3 w3 hrow3 hgr hgo hlt3)
            have hb4 : Below w1.heap.size w1 w3 := ((hb.trans (hb3.mono hz)).trans (hA2.mono hsz2)).grown hgr (by rw [World.size_alloc]; omega) fun j hj => (hrow.lt j hj).1
            clear hgr hgo hlt3 eE0
            have HE3 : Hid (min k t.names.length = k) := by have := HNL.out; rwa [List.length_take] at this
            go_roundw
            case rel => exact ⟨k + 1, by omega, by go_num, by rw [HNL.out] at hrow3; rw [HT1.out]; first | (rw [HE3.out]; exact hrow3) | exact hrow3, HF, hb4⟩
            case measure => simp [intOf]; omega
        · replace hv : varName t.bs[k].term.name = false := by simpa using hv
          have HF : Hid (t.ren = false) := Sb.ren_var hlt hv
          go_wp2_with fail
          have hA0 : Below wr.heap.size wr (wr.alloc (.cells #[.string t.bs[k].var, .string t.bs[k].term.name, .slice p t.bs[k].term.args.length pc] 97)) := (Below.refl _ _).alloc (Nat.le_refl _) _
          have bE : Box (wr.alloc (.cells #[.string t.bs[k].var, .string t.bs[k].term.name, .slice p t.bs[k].term.args.length pc] 97)) wr.heap.size [.string t.bs[k].var, .string t.bs[k].term.name, .slice p t.bs[k].term.args.length pc] := Box.new _ _ _
          refine (isVar_any hni (Tm.at_keep (Keeps.all hA0) (Bnd.at_term qx))).mono ?_
          rintro e w2 ⟨_, rfl, hb2, rfl⟩
          have hb3 := hA0.trans (hb2.mono hA0.size)
          replace bE := bE.keep hb2
          replace hrow := hrow.keep hb3
          rw [hv]
          have eE1 := bE.c1
          have lE := bE.lt
          go_wp2_with fail
          clear eE1 lE
          go_ret2
          exact Gives.mk (by rw [HR.out, HE.out, HF.out]; rfl) (hW.trans ((hb.trans (hb3.mono hz)).mono hz1))
      · obtain rfl : k = t.bs.length := by omega
        have HF : Hid (t.ren = true) := Sb.ren_yes HK.out
        go_wp2_with fail
        go_ret2
        exact Gives.mk (by rw [HR.out, HE.out, HF.out]; rfl) (hW.trans (hb.mono hz1))
  · replace h : t.valid = false := by simpa using h
    have HR : Hid (t.renR = false) := by rw [Hid, Sb.renR, h]; rfl
    have HE := hid h
    obtain ⟨a, cap, rfl⟩ := Sb.at_form hT
    have hW : Below w.heap.size w (w.alloc (.cells #[.slice a t.bs.length cap] 50)) := (Below.refl _ _).alloc (Nat.le_refl _) _
    have bT : Box (w.alloc (.cells #[.slice a t.bs.length cap] 50)) w.heap.size [.slice a t.bs.length cap] := Box.new w _ _
    replace hT := Sb.at_keep (Keeps.all hW) hT
    go_enter Try.func41, Try.ntmps41
    go_wp2_with fail
    generalize (w.alloc (.cells #[.slice a t.bs.length cap] 50)) = w0 at *
    refine (impl_IsValidSubstitution hT hbk).mono ?_
    rintro e w1 ⟨_, rfl, hb, rfl⟩
    replace hW := hW.trans (hb.mono hW.size)
    replace bT := bT.keep hb
    replace hT := Sb.at_keep (Keeps.all hb) hT
    clear hb
    rw [h]
    have eT0 := bT.c0
    have lT := bT.lt
    go_wp2_with fail
    clear eT0 lT
    go_ret2
    exact Gives.mk (by rw [HR.out, HE.out]; rfl) hW
set_option maxHeartbeats 2000000 in
theorem spec_IsRenaming {t : Sb} {S : Nat → Prop} {c0 : Value} {w : World} (hT : Sb.at S w c0 t) (hbk : t.bulk ≤ 1048576) : Calls Try.prog 40 #[.agg #[c0]] w (Gives w (.tuple #[.bool t.renR, .bool t.valid])) := by
  by_cases h : t.valid = true
  · have HE := hid h
    have HR : Hid (t.renR = t.ren) := by rw [Hid, Sb.renR, h]; rfl
    have hbk' := hbk
    rw [Sb.bulk] at hbk'
    have hlen : t.bs.length ≤ 1048576 := by omega
    obtain ⟨a, cap, rfl⟩ := Sb.at_form hT
    have hW : Below w.heap.size w (w.alloc (.cells #[.slice a t.bs.length cap] 50)) := (Below.refl _ _).alloc (Nat.le_refl _) _
    have bT : Box (w.alloc (.cells #[.slice a t.bs.length cap] 50)) w.heap.size [.slice a t.bs.length cap] := Box.new w _ _
    replace hT := Sb.at_keep (Keeps.all hW) hT
    go_enter Try.func40, Try.ntmps40
    go_wp2_with fail
    generalize (w.alloc (.cells #[.slice a t.bs.length cap] 50)) = w0 at *
    refine (l4Good_any hT hbk).mono ?_
    rintro e w1 ⟨_, rfl, hb, rfl⟩
    replace hW := hW.trans (hb.mono hW.size)
    replace bT := bT.keep hb
    replace hT := Sb.at_keep (Keeps.all hb) hT
    clear hb
    rw [h]
    have eT0 := bT.c0
    have lT := bT.lt
    go_wp2_with fail
    clear eT0 lT
    clear h
    rename World => w1
    have hz1 := hW.size
    go_loopw [4] (fun i wr => ∃ (k : Nat), k ≤ t.bs.length ∧ i = .int .i64 k ∧ Hid (t.renTo k) ∧ Below w1.heap.size w1 wr) (fun i _ => t.bs.length - (intOf i).toNat)
    case atStart => exact ⟨0, Nat.zero_le _, rfl, Sb.renTo_zero t, Below.refl _ _⟩
    case round =>
      obtain ⟨k, hk, rfl, HK, hb⟩ := hrel
      have hz := hb.size
      obtain ⟨wo, rfl⟩ : ∃ wo : World, wo = wr := ⟨_, rfl⟩
      have bR := bT.keep hb
      have eT0 := bR.c0
      have lT := bR.lt
      by_cases hlt : k < t.bs.length
      · have hne : t.bs ≠ [] := by intro e; rw [e] at hlt; simp at hlt
        obtain ⟨b, off, rfl, hS, hbl, hrr⟩ := Bnd.sd_get hT hne
        have HP : Hid (∀ j (hj : j < t.bs.length), wo.cell? ⟨b, off + j * 3 + 1, none⟩ = some (.string t.bs[j].term.name) ∧ t.bs[j].term.name.size ≤ maxLen) := fun j hj => by
          obtain ⟨d0, d1, d2, p0, p1, p2, px⟩ := hrr j hj
          obtain ⟨rfl, rfl, -⟩ := Bnd.at_form px
          exact ⟨(hb.cell (p := ⟨b, off + j * 3 + 1, none⟩) hbl).trans p1, (Tm.at_form (Bnd.at_term px)).2.1⟩
        obtain ⟨q1, hns⟩ := HP.out k hlt
        have lb : b < wo.heap.size := Nat.lt_of_lt_of_le hbl hz
        clear hrr
        by_cases hv : varName t.bs[k].term.name = true
        · go_wp2_with fail
          refine (l2Var_any t.bs[k].term.name hns _).mono ?_
          rintro e w2 ⟨rfl, rfl⟩
          rw [hv]
          go_wp2_with fail
          go_loopw [5] (fun i wi => ∃ (j : Nat), j ≤ k ∧ i = .int .i64 j ∧ Hid (t.bs[k].term.name ∉ t.names.take j) ∧ Below wo.heap.size wo wi) (fun i _ => k - (intOf i).toNat)
          case atStart => exact ⟨0, Nat.zero_le _, rfl, by simp [Hid], Below.refl _ _⟩
          case round =>
            rename World => wi
            obtain ⟨j, hj, rfl, HJ, hbi⟩ := hrel
            have bI := bR.keep hbi
            have eI0 := bI.c0
            have lI := bI.lt
            have lbi : b < wi.heap.size := Nat.lt_of_lt_of_le lb hbi.size
            by_cases hjk : j < k
            · have hjl : j < t.bs.length := by omega
              have q1' := (hbi.cell (p := ⟨b, off + k * 3 + 1, none⟩) lb).trans q1
              have p1' := (hbi.cell (p := ⟨b, off + j * 3 + 1, none⟩) lb).trans (HP.out j hjl).1
              by_cases he : t.bs[j].term.name = t.bs[k].term.name
              · have hq := toList_yes' he
                have HF : Hid (t.ren = false) := Sb.ren_twice hlt (by rw [← he]; exact Sb.names_mem hjk hjl)
                clear he
                go_wp2_with fail
                refine wp_region_B [fun v _ => v = .pointer (some ⟨w.heap.size, 0, none⟩), fun v _ => v = .slice (some ⟨b, off, none⟩) t.bs.length cap, fun v _ => v = .int .i64 j, fun v _ => v = .pointer (some ⟨b, off + j * 3, none⟩), fun v _ => v = .pointer (some ⟨b, off + j * 3 + 1, none⟩), fun v _ => v = .pointer (some ⟨b, off + j * 3 + 1, none⟩), fun v _ => v = .string t.bs[j].term.name, fun v _ => v = .pointer (some ⟨w.heap.size, 0, none⟩), fun v _ => v = .slice (some ⟨b, off, none⟩) t.bs.length cap, fun v _ => v = .int .i64 k, fun v _ => v = .pointer (some ⟨b, off + k * 3, none⟩), fun v _ => v = .pointer (some ⟨b, off + k * 3 + 1, none⟩), fun v _ => v = .pointer (some ⟨b, off + k * 3 + 1, none⟩), fun v _ => v = .string t.bs[k].term.name, fun v _ => v = .bool true] _ (fun V => by simp [putAll, Act.put]; rfl) (by kernel_rfl) (by decide) (by simp) (by kernel_rfl) ?_ ?_ ?_
                · intro F hF
                  simp only [List.mem_cons, List.not_mem_nil, or_false] at hF
                  rcases hF with rfl | rfl | rfl | rfl | rfl | rfl | rfl | rfl | rfl | rfl | rfl | rfl | rfl | rfl | rfl
                  · exact stable_eq
                  · exact stable_eq
                  · exact stable_eq
                  · exact stable_eq
                  · exact stable_eq
                  · exact stable_eq
                  · exact stable_eq
                  · exact stable_eq
                  · exact stable_eq
                  · exact stable_eq
                  · exact stable_eq
                  · exact stable_eq
                  · exact stable_eq
                  · exact stable_eq
                  · exact stable_eq
                · refine ⟨?_, ?_, ?_, ?_, ?_, ?_, ?_, ?_, ?_, ?_, ?_, ?_, ?_, ?_, ?_, trivial⟩
                  · intro V w1 hbR _
                    unfold Does
                    go_simp
                    exact ⟨Below.refl _ _, rfl⟩
                  · intro V w1 hbR ⟨f0, _⟩
                    replace f0 : V 0 = .pointer (some ⟨w.heap.size, 0, none⟩) := f0
                    obtain ⟨hc, hf⟩ := bcell hbR
                    try simp only [World.size_alloc, World.size_setCell] at hc hf
                    unfold Does
                    go_simp
                    exact ⟨Below.refl _ _, rfl⟩
                  · intro V w1 hbR _
                    unfold Does
                    go_simp
                    exact ⟨Below.refl _ _, rfl⟩
                  · intro V w1 hbR ⟨f1, f2, _⟩
                    replace f1 : V 1 = .slice (some ⟨b, off, none⟩) t.bs.length cap := f1
                    replace f2 : V 2 = .int .i64 j := f2
                    unfold Does
                    go_simp
                    exact ⟨Below.refl _ _, rfl⟩
                  · intro V w1 hbR ⟨f3, _⟩
                    replace f3 : V 3 = .pointer (some ⟨b, off + j * 3, none⟩) := f3
                    unfold Does
                    go_simp
                    exact ⟨Below.refl _ _, rfl⟩
                  · intro V w1 hbR ⟨f4, _⟩
                    replace f4 : V 4 = .pointer (some ⟨b, off + j * 3 + 1, none⟩) := f4
                    unfold Does
                    go_simp
                    exact ⟨Below.refl _ _, rfl⟩
                  · intro V w1 hbR ⟨f5, _⟩
                    replace f5 : V 5 = .pointer (some ⟨b, off + j * 3 + 1, none⟩) := f5
                    obtain ⟨hc, hf⟩ := bcell hbR
                    try simp only [World.size_alloc, World.size_setCell] at hc hf
                    unfold Does
                    go_simp
                    exact ⟨Below.refl _ _, rfl⟩
                  · intro V w1 hbR _
                    unfold Does
                    go_simp
                    exact ⟨Below.refl _ _, rfl⟩
                  · intro V w1 hbR ⟨f7, _⟩
                    replace f7 : V 7 = .pointer (some ⟨w.heap.size, 0, none⟩) := f7
                    obtain ⟨hc, hf⟩ := bcell hbR
                    try simp only [World.size_alloc, World.size_setCell] at hc hf
                    unfold Does
                    go_simp
                    exact ⟨Below.refl _ _, rfl⟩
                  · intro V w1 hbR _
                    unfold Does
                    go_simp
                    exact ⟨Below.refl _ _, rfl⟩
                  · intro V w1 hbR ⟨f8, f9, _⟩
                    replace f8 : V 8 = .slice (some ⟨b, off, none⟩) t.bs.length cap := f8
                    replace f9 : V 9 = .int .i64 k := f9
                    unfold Does
                    go_simp
                    exact ⟨Below.refl _ _, rfl⟩
                  · intro V w1 hbR ⟨f10, _⟩
                    replace f10 : V 10 = .pointer (some ⟨b, off + k * 3, none⟩) := f10
                    unfold Does
                    go_simp
                    exact ⟨Below.refl _ _, rfl⟩
                  · intro V w1 hbR ⟨f11, _⟩
                    replace f11 : V 11 = .pointer (some ⟨b, off + k * 3 + 1, none⟩) := f11
                    unfold Does
                    go_simp
                    exact ⟨Below.refl _ _, rfl⟩
                  · intro V w1 hbR ⟨f12, _⟩
                    replace f12 : V 12 = .pointer (some ⟨b, off + k * 3 + 1, none⟩) := f12
                    obtain ⟨hc, hf⟩ := bcell hbR
                    try simp only [World.size_alloc, World.size_setCell] at hc hf
                    unfold Does
                    go_simp
                    exact ⟨Below.refl _ _, rfl⟩
                  · intro V w1 hbR ⟨f6, f13, _⟩
                    replace f6 : V 6 = .string t.bs[j].term.name := f6
                    replace f13 : V 13 = .string t.bs[k].term.name := f13
                    unfold Does
                    go_simp
                    exact ⟨Below.refl _ _, rfl⟩
                intro V w3 hbR hfR
                obtain ⟨f0, f1, f2, f3, f4, f5, f6, f7, f8, f9, f10, f11, f12, f13, f14, _⟩ := hfR
                replace f0 : V 0 = .pointer (some ⟨w.heap.size, 0, none⟩) := f0
                replace f1 : V 1 = .slice (some ⟨b, off, none⟩) t.bs.length cap := f1
                replace f2 : V 2 = .int .i64 j := f2
                replace f3 : V 3 = .pointer (some ⟨b, off + j * 3, none⟩) := f3
                replace f4 : V 4 = .pointer (some ⟨b, off + j * 3 + 1, none⟩) := f4
                replace f5 : V 5 = .pointer (some ⟨b, off + j * 3 + 1, none⟩) := f5
                replace f6 : V 6 = .string t.bs[j].term.name := f6
                replace f7 : V 7 = .pointer (some ⟨w.heap.size, 0, none⟩) := f7
                replace f8 : V 8 = .slice (some ⟨b, off, none⟩) t.bs.length cap := f8
                replace f9 : V 9 = .int .i64 k := f9
                replace f10 : V 10 = .pointer (some ⟨b, off + k * 3, none⟩) := f10
                replace f11 : V 11 = .pointer (some ⟨b, off + k * 3 + 1, none⟩) := f11
                replace f12 : V 12 = .pointer (some ⟨b, off + k * 3 + 1, none⟩) := f12
                replace f13 : V 13 = .string t.bs[k].term.name := f13
                replace f14 : V 14 = .bool true := f14
                simp only [f0, f1, f2, f3, f4, f5, f6, f7, f8, f9, f10, f11, f12, f13, f14]
                clear f0 f1 f2 f3 f4 f5 f6 f7 f8 f9 f10 f11 f12 f13 f14
                go_wp2_with fail
                go_ret2
                exact Gives.mk (by rw [HR.out, HE.out, HF.out]; rfl) (hW.trans ((hb.trans ((hbi.trans (hbR.mono hbi.size)).mono hz)).mono hz1))
              · have hq := toList_ne he
                have HF : Hid (t.bs[k].term.name ∉ t.names.take (j + 1)) := by
                  rw [Hid, Sb.names_take hjl, List.mem_append]
                  rintro (q | q)
                  · exact HJ.out q
                  · exact he (List.mem_singleton.1 q).symm
                clear he
                go_wp2_with fail
                refine wp_region_B [fun v _ => v = .pointer (some ⟨w.heap.size, 0, none⟩), fun v _ => v = .slice (some ⟨b, off, none⟩) t.bs.length cap, fun v _ => v = .int .i64 j, fun v _ => v = .pointer (some ⟨b, off + j * 3, none⟩), fun v _ => v = .pointer (some ⟨b, off + j * 3 + 1, none⟩), fun v _ => v = .pointer (some ⟨b, off + j * 3 + 1, none⟩), fun v _ => v = .string t.bs[j].term.name, fun v _ => v = .pointer (some ⟨w.heap.size, 0, none⟩), fun v _ => v = .slice (some ⟨b, off, none⟩) t.bs.length cap, fun v _ => v = .int .i64 k, fun v _ => v = .pointer (some ⟨b, off + k * 3, none⟩), fun v _ => v = .pointer (some ⟨b, off + k * 3 + 1, none⟩), fun v _ => v = .pointer (some ⟨b, off + k * 3 + 1, none⟩), fun v _ => v = .string t.bs[k].term.name, fun v _ => v = .bool false] _ (fun V => by simp [putAll, Act.put]; rfl) (by kernel_rfl) (by decide) (by simp) (by kernel_rfl) ?_ ?_ ?_
                · intro F hF
                  simp only [List.mem_cons, List.not_mem_nil, or_false] at hF
                  rcases hF with rfl | rfl | rfl | rfl | rfl | rfl | rfl | rfl | rfl | rfl | rfl | rfl | rfl | rfl | rfl
                  · exact stable_eq
                  · exact stable_eq
                  · exact stable_eq
                  · exact stable_eq
                  · exact stable_eq
                  · exact stable_eq
                  · exact stable_eq
                  · exact stable_eq
                  · exact stable_eq
                  · exact stable_eq
                  · exact stable_eq
                  · exact stable_eq
                  · exact stable_eq
                  · exact stable_eq
                  · exact stable_eq
                · refine ⟨?_, ?_, ?_, ?_, ?_, ?_, ?_, ?_, ?_, ?_, ?_, ?_, ?_, ?_, ?_, trivial⟩
                  · intro V w1 hbR _
                    unfold Does
                    go_simp
                    exact ⟨Below.refl _ _, rfl⟩
                  · intro V w1 hbR ⟨f0, _⟩
                    replace f0 : V 0 = .pointer (some ⟨w.heap.size, 0, none⟩) := f0
                    obtain ⟨hc, hf⟩ := bcell hbR
                    try simp only [World.size_alloc, World.size_setCell] at hc hf
                    unfold Does
                    go_simp
                    exact ⟨Below.refl _ _, rfl⟩
                  · intro V w1 hbR _
                    unfold Does
                    go_simp
                    exact ⟨Below.refl _ _, rfl⟩
                  · intro V w1 hbR ⟨f1, f2, _⟩
                    replace f1 : V 1 = .slice (some ⟨b, off, none⟩) t.bs.length cap := f1
                    replace f2 : V 2 = .int .i64 j := f2
                    unfold Does
                    go_simp
                    exact ⟨Below.refl _ _, rfl⟩
                  · intro V w1 hbR ⟨f3, _⟩
                    replace f3 : V 3 = .pointer (some ⟨b, off + j * 3, none⟩) := f3
                    unfold Does
                    go_simp
                    exact ⟨Below.refl _ _, rfl⟩
                  · intro V w1 hbR ⟨f4, _⟩
                    replace f4 : V 4 = .pointer (some ⟨b, off + j * 3 + 1, none⟩) := f4
                    unfold Does
                    go_simp
                    exact ⟨Below.refl _ _, rfl⟩
                  · intro V w1 hbR ⟨f5, _⟩
                    replace f5 : V 5 = .pointer (some ⟨b, off + j * 3 + 1, none⟩) := f5
                    obtain ⟨hc, hf⟩ := bcell hbR
                    try simp only [World.size_alloc, World.size_setCell] at hc hf
                    unfold Does
                    go_simp
                    exact ⟨Below.refl _ _, rfl⟩
                  · intro V w1 hbR _
                    unfold Does
                    go_simp
                    exact ⟨Below.refl _ _, rfl⟩
                  · intro V w1 hbR ⟨f7, _⟩
                    replace f7 : V 7 = .pointer (some ⟨w.heap.size, 0, none⟩) := f7
                    obtain ⟨hc, hf⟩ := bcell hbR
                    try simp only [World.size_alloc, World.size_setCell] at hc hf
                    unfold Does
                    go_simp
                    exact ⟨Below.refl _ _, rfl⟩
                  · intro V w1 hbR _
                    unfold Does
                    go_simp
                    exact ⟨Below.refl _ _, rfl⟩
                  · intro V w1 hbR ⟨f8, f9, _⟩
                    replace f8 : V 8 = .slice (some ⟨b, off, none⟩) t.bs.length cap := f8
                    replace f9 : V 9 = .int .i64 k := f9
                    unfold Does
                    go_simp
                    exact ⟨Below.refl _ _, rfl⟩
                  · intro V w1 hbR ⟨f10, _⟩
                    replace f10 : V 10 = .pointer (some ⟨b, off + k * 3, none⟩) := f10
                    unfold Does
                    go_simp
                    exact ⟨Below.refl _ _, rfl⟩
                  · intro V w1 hbR ⟨f11, _⟩
                    replace f11 : V 11 = .pointer (some ⟨b, off + k * 3 + 1, none⟩) := f11
                    unfold Does
                    go_simp
                    exact ⟨Below.refl _ _, rfl⟩
                  · intro V w1 hbR ⟨f12, _⟩
                    replace f12 : V 12 = .pointer (some ⟨b, off + k * 3 + 1, none⟩) := f12
                    obtain ⟨hc, hf⟩ := bcell hbR
                    try simp only [World.size_alloc, World.size_setCell] at hc hf
                    unfold Does
                    go_simp
                    exact ⟨Below.refl _ _, rfl⟩
                  · intro V w1 hbR ⟨f6, f13, _⟩
                    replace f6 : V 6 = .string t.bs[j].term.name := f6
                    replace f13 : V 13 = .string t.bs[k].term.name := f13
                    unfold Does
                    go_simp
                    exact ⟨Below.refl _ _, rfl⟩
                intro V w3 hbR hfR
                obtain ⟨f0, f1, f2, f3, f4, f5, f6, f7, f8, f9, f10, f11, f12, f13, f14, _⟩ := hfR
                replace f0 : V 0 = .pointer (some ⟨w.heap.size, 0, none⟩) := f0
                replace f1 : V 1 = .slice (some ⟨b, off, none⟩) t.bs.length cap := f1
                replace f2 : V 2 = .int .i64 j := f2
                replace f3 : V 3 = .pointer (some ⟨b, off + j * 3, none⟩) := f3
                replace f4 : V 4 = .pointer (some ⟨b, off + j * 3 + 1, none⟩) := f4
                replace f5 : V 5 = .pointer (some ⟨b, off + j * 3 + 1, none⟩) := f5
                replace f6 : V 6 = .string t.bs[j].term.name := f6
                replace f7 : V 7 = .pointer (some ⟨w.heap.size, 0, none⟩) := f7
                replace f8 : V 8 = .slice (some ⟨b, off, none⟩) t.bs.length cap := f8
                replace f9 : V 9 = .int .i64 k := f9
                replace f10 : V 10 = .pointer (some ⟨b, off + k * 3, none⟩) := f10
                replace f11 : V 11 = .pointer (some ⟨b, off + k * 3 + 1, none⟩) := f11
                replace f12 : V 12 = .pointer (some ⟨b, off + k * 3 + 1, none⟩) := f12
                replace f13 : V 13 = .string t.bs[k].term.name := f13
                replace f14 : V 14 = .bool false := f14
                simp only [f0, f1, f2, f3, f4, f5, f6, f7, f8, f9, f10, f11, f12, f13, f14]
                clear f0 f1 f2 f3 f4 f5 f6 f7 f8 f9 f10 f11 f12 f13 f14
                go_wp2_with fail
                go_roundw
                case rel => exact ⟨j + 1, by omega, by go_num, HF, hbi.trans (hbR.mono hbi.size)⟩
                case measure => simp [intOf]; omega
            · obtain rfl : j = k := by omega
              have HF : Hid (t.renTo (j + 1)) := Sb.renTo_succ hlt HK.out hv HJ.out
              go_wp2_with fail
              go_roundw
              case rel => exact ⟨j + 1, by omega, by go_num, HF, hb.trans (hbi.mono hz)⟩
              case measure => simp [intOf]; omega
        · replace hv : varName t.bs[k].term.name = false := by simpa using hv
          have HF : Hid (t.ren = false) := Sb.ren_var hlt hv
          go_wp2_with fail
          refine (l2Var_any t.bs[k].term.name hns _).mono ?_
          rintro e w2 ⟨rfl, rfl⟩
          rw [hv]
          go_wp2_with fail
          go_ret2
          exact Gives.mk (by rw [HR.out, HE.out, HF.out]; rfl) (hW.trans (hb.mono hz1))
      · obtain rfl : k = t.bs.length := by omega
        have HF : Hid (t.ren = true) := Sb.ren_yes HK.out
        go_wp2_with fail
        go_ret2
        exact Gives.mk (by rw [HR.out, HE.out, HF.out]; rfl) (hW.trans (hb.mono hz1))
  · replace h : t.valid = false := by simpa using h
    have HR : Hid (t.renR = false) := by rw [Hid, Sb.renR, h]; rfl
    have HE := hid h
    obtain ⟨a, cap, rfl⟩ := Sb.at_form hT
    have hW : Below w.heap.size w (w.alloc (.cells #[.slice a t.bs.length cap] 50)) := (Below.refl _ _).alloc (Nat.le_refl _) _
    have bT : Box (w.alloc (.cells #[.slice a t.bs.length cap] 50)) w.heap.size [.slice a t.bs.length cap] := Box.new w _ _
    replace hT := Sb.at_keep (Keeps.all hW) hT
    go_enter Try.func40, Try.ntmps40
    go_wp2_with fail
    generalize (w.alloc (.cells #[.slice a t.bs.length cap] 50)) = w0 at *
    refine (l4Good_any hT hbk).mono ?_
    rintro e w1 ⟨_, rfl, hb, rfl⟩
    replace hW := hW.trans (hb.mono hW.size)
    replace bT := bT.keep hb
    replace hT := Sb.at_keep (Keeps.all hb) hT
    clear hb
    rw [h]
    have eT0 := bT.c0
    have lT := bT.lt
    go_wp2_with fail
    clear eT0 lT
    go_ret2
    exact Gives.mk (by rw [HR.out, HE.out]; rfl) hW
end Go.Proofs.Ytiifibmahomdhaa
