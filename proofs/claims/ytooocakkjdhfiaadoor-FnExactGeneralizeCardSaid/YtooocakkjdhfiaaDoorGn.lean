/- The reference generalizes two terms. -/
import Derived.Test.YtooocakkjdhfiaaDoorGq
import Derived.Test.YtooocakkjdhfiaaDoorSame
import Derived.Test.YtooocakkjdhfiaaDoorNw
import Derived.Test.YtooocakkjdhfiaaDoorTo
import Derived.Test.YtooocakkjdhfiaaDoorZb
import Derived.Test.YtooocakkjdhfiaaDoorHw
namespace Go.Proofs.YtooocakkjdhfiaaDoor
set_option maxRecDepth 100000
open Go.RowKit

theorem infoEqn : (Tryd.prog.info? 48).map (fun i => (i.zero, i.size, i.bytes)) = some (some (.agg #[.string ByteArray.empty, .slice none 0 0, .string ByteArray.empty, .slice none 0 0]), 4, 80) := by kernel_rfl
/-- what generalizing comes to -/
def GenOut (r : Tm × List Pr) (v : Value) (B : Nat) (S : Nat → Prop) (w : World) (e : Ending) (w' : World) : Prop :=
  ∃ v1 F v', e = .returned (.tuple #[.agg #[.string r.1.name, v1], v']) ∧ D.own w' v1 (Tm.sd r.1.args) F ∧ (∀ x ∈ F, w.heap.size ≤ x) ∧ (∀ x, v'.ownBlock = some x → x ∉ F) ∧ Rv S w' B 48 4 v' r.2.length (prCss r.2) ∧ w.grownBy w' v.ownBlock ∧ Goes w v v'
def GenS (t : Tm) : Prop := ∀ (u : Tm) (l : List Pr) (v : Value) (B : Nat) (S : Nat → Prop) (c0 c1 d0 d1 : Value) (w : World), Rv S w B 48 4 v l.length (prCss l) → B ≤ w.heap.size → (∀ x, S x → x < B) → Tm.at S w c0 c1 t → Tm.at S w d0 d1 u → l.length + t.size ≤ 999999 → t.bulk ≤ 1048576 →
  Calls Tryd.prog 13 #[.agg #[c0, c1], .agg #[d0, d1], v] w (GenOut (Tm.gen t u l) v B S w)

set_option maxHeartbeats 8000000 in
theorem genS_of (t : Tm) (ih : ∀ a ∈ t.args, GenS a) : GenS t := by
  intro u l v B S c0 c1 d0 d1 w hv hB hS ht hu hsz hbk
  have hvl := hv.lt
  obtain ⟨va, vc, rfl, hvn, hvc⟩ := hv.form
  unfold big at hvn
  have HV := hid hv
  have HS := hid hS
  have HVL := hid hvl
  clear hv hvl hS
  have hts := Tm.size_pos t
  have htl : t.args.length ≤ 9223372036854775807 := by obtain ⟨_, _, _, q, _⟩ := Tm.sd_form ht.2; exact q
  have hul : u.args.length ≤ 9223372036854775807 := by obtain ⟨_, _, _, q, _⟩ := Tm.sd_form hu.2; exact q
  obtain ⟨R, HR⟩ : ∃ R, Hid (Tm.gen t u l = R) := ⟨_, hid rfl⟩
  rw [HR.out]
  by_cases hnn : t.name = u.name
  · have hq := show (t.name.toList == u.name.toList) = true by rw [hnn]; simp
    have hqn : (t.name.toList != u.name.toList) = false := by rw [hnn]; simp
    by_cases hll : t.args.length = u.args.length
    · have hqi : ((t.args.length : Int) != (u.args.length : Int)) = false := by simp [hll]
      have hqj : ((t.args.length : Int) == (u.args.length : Int)) = true := by simp [hll]
      have HLL := hid hll
      by_cases hvv : varName t.name = true
      · have HN := hid hvv
        have HGO : Hid (R = (genVar l t u, addP l t u)) := by rw [Hid, ← HR.out]; exact Tm.gen_out l (fun q => by rw [hvv] at q; cases q.1)
        clear hnn hll hvv ih
        obtain ⟨rfl, tn, ta, tc, rfl⟩ := Tm.at_form ht
        obtain ⟨rfl, un, ua, uc, rfl⟩ := Tm.at_form hu
        have hW : Below w.heap.size w (((w.alloc (.cells #[.string t.name, .slice ta t.args.length tc] 28)).alloc (.cells #[.string u.name, .slice ua u.args.length uc] 28)).alloc (.cells #[.string ⟨#[]⟩, .slice none 0 0] 28)) := (((Below.refl _ _).alloc (Nat.le_refl _) _).alloc (by simp) _).alloc (by simp; omega) _
        have bt : Box (((w.alloc (.cells #[.string t.name, .slice ta t.args.length tc] 28)).alloc (.cells #[.string u.name, .slice ua u.args.length uc] 28)).alloc (.cells #[.string ⟨#[]⟩, .slice none 0 0] 28)) (w.heap.size) [.string t.name, .slice ta t.args.length tc] := by
          have := (((Box.new w [.string t.name, .slice ta t.args.length tc] 28).alloc (.cells #[.string u.name, .slice ua u.args.length uc] 28)).alloc (.cells #[.string ⟨#[]⟩, .slice none 0 0] 28))
          simpa only [World.size_alloc] using this
        have bu : Box (((w.alloc (.cells #[.string t.name, .slice ta t.args.length tc] 28)).alloc (.cells #[.string u.name, .slice ua u.args.length uc] 28)).alloc (.cells #[.string ⟨#[]⟩, .slice none 0 0] 28)) (w.heap.size + 1) [.string u.name, .slice ua u.args.length uc] := by
          have := ((Box.new (w.alloc (.cells #[.string t.name, .slice ta t.args.length tc] 28)) [.string u.name, .slice ua u.args.length uc] 28).alloc (.cells #[.string ⟨#[]⟩, .slice none 0 0] 28))
          simpa only [World.size_alloc] using this
        have rb : Box (((w.alloc (.cells #[.string t.name, .slice ta t.args.length tc] 28)).alloc (.cells #[.string u.name, .slice ua u.args.length uc] 28)).alloc (.cells #[.string ⟨#[]⟩, .slice none 0 0] 28)) (w.heap.size + 1 + 1) [.string ⟨#[]⟩, .slice none 0 0] := by
          have := (Box.new ((w.alloc (.cells #[.string t.name, .slice ta t.args.length tc] 28)).alloc (.cells #[.string u.name, .slice ua u.args.length uc] 28)) [.string ⟨#[]⟩, .slice none 0 0] 28)
          simpa only [World.size_alloc] using this
        have rf : ∀ p, (((w.alloc (.cells #[.string t.name, .slice ta t.args.length tc] 28)).alloc (.cells #[.string u.name, .slice ua u.args.length uc] 28)).alloc (.cells #[.string ⟨#[]⟩, .slice none 0 0] 28)).frozen? ⟨w.heap.size + 1 + 1, p, none⟩ = false := fun p => World.frozen?_alloc_at _ _ _ p (by simp)
        replace ht := Tm.at_keep (Keeps.all hW) ht
        replace hu := Tm.at_keep (Keeps.all hW) hu
        have et0 := bt.c0
        have et1 := bt.c1
        have lt := bt.lt
        have eu0 := bu.c0
        have eu1 := bu.c1
        have lu := bu.lt
        have re0 := rb.c0
        have rf0 := rf 0
        have re1 := rb.c1
        have rf1 := rf 1
        have rl := rb.lt
        go_enter Tryd.func13, Tryd.ntmps13
        go_wp2_with fail
        clear et0 et1 lt eu0 eu1 lu re0 rf0 re1 rf1 rl
        have Hw0 : Hid ((((w.alloc (.cells #[.string t.name, .slice ta t.args.length tc] 28)).alloc (.cells #[.string u.name, .slice ua u.args.length uc] 28)).alloc (.cells #[.string ⟨#[]⟩, .slice none 0 0] 28)).heap.size = w.heap.size + 1 + 1 + 1) := by simp [Hid]
        generalize (((w.alloc (.cells #[.string t.name, .slice ta t.args.length tc] 28)).alloc (.cells #[.string u.name, .slice ua u.args.length uc] 28)).alloc (.cells #[.string ⟨#[]⟩, .slice none 0 0] 28)) = w0 at *
        refine (l2Var_any _ tn _).mono ?_
        rintro e w1 ⟨rfl, rfl⟩
        rw [HN.out]
        have et0 := bt.c0
        have et1 := bt.c1
        have lt := bt.lt
        have eu0 := bu.c0
        have eu1 := bu.c1
        have lu := bu.lt
        have re0 := rb.c0
        have rf0 := rf 0
        have re1 := rb.c1
        have rf1 := rf 1
        have rl := rb.lt
        go_wp2_with fail
        clear et0 et1 lt eu0 eu1 lu re0 rf0 re1 rf1 rl
        clear hq hqi hqn hqj
        go_loopw [8] (fun i wr => ∃ k : Nat, k ≤ l.length ∧ i = .int .i64 k ∧ Hid (∀ j (h : j < l.length), j < k → eqP l[j] t u = false) ∧ Hid (Below w0.heap.size w0 wr)) (fun i _ => l.length - (intOf i).toNat)
        case atStart => exact ⟨0, Nat.zero_le _, rfl, fun j h h' => absurd h' (by omega), Below.refl _ _⟩
        case round =>
          obtain ⟨k, hk, rfl, HK, HB⟩ := hrel
          have hb := HB.out
          replace hW := hW.trans (hb.mono hW.size)
          replace bt := bt.keep hb
          replace ht := Tm.at_keep (Keeps.all hb) ht
          replace bu := bu.keep hb
          replace hu := Tm.at_keep (Keeps.all hb) hu
          replace rf := fun p => (hb.frozen (p := ⟨_, p, none⟩) rb.lt).trans (rf p)
          replace rb := rb.keep hb
          clear hb
          have HWR := hid hW
          have hzw := hW.size
          have hkI : (0 : Int) ≤ (k : Int) := by omega
          by_cases hlt : k < l.length
          · have hne : l ≠ [] := by intro e; subst e; simp at hlt
            obtain ⟨b, off, rfl, hSb, hbl, hrr⟩ := pr_get (pr_rd (HV.out.keep HWR.out)) hne
            obtain ⟨x0, x1, y0, y1, q0, q1, q2, q3, qx, qy⟩ := hrr k hlt
            have hqx := hid qx
            have hqy := hid qy
            obtain ⟨rfl, -, xa, xc, rfl⟩ := Tm.at_form qx
            obtain ⟨rfl, -, ya, yc, rfl⟩ := Tm.at_form qy
            have q3' : wr.cell? ⟨b, off + k * 4 + 2 + 1, none⟩ = some (.slice ya l[k].2.args.length yc) := q3
            have hs1 := l2Same_any l[k].1 t
            have hs2 := l2Same_any l[k].2 u
            unfold Tells at hs1 hs2
            clear hrr qx qy
            obtain ⟨E1, HE1⟩ : ∃ E1, Hid (Tm.eqb l[k].1 t = E1) := ⟨_, hid rfl⟩
            obtain ⟨E2, HE2⟩ : ∃ E2, Hid (Tm.eqb l[k].2 u = E2) := ⟨_, hid rfl⟩
            rw [HE1.out] at hs1
            rw [HE2.out] at hs2
            have HEQ := hid (eqP_of HE1.out HE2.out)
            have HS1 := hid hs1
            have HS2 := hid hs2
            clear hs1 hs2
            cases E1 with
            | true =>
              cases E2 with
              | true =>
                have HI : Hid (idxP l t u = k) := idxP_at hk HK.out (fun _ => HEQ.out)
                have HRR : Hid (R = (.node (⟨#[71]⟩ ++ itoaB (k : Int)) [], l)) := by
                  rw [Hid, HGO.out, genVar, HI.out, addP, HI.out, if_pos hlt]; rfl
                have HNUM := hid (l1Num_any (k : Int) (by omega) (by omega))
                have hzi := itoaB_size (n := (k : Int)) (by omega) (by omega)
                have g4 : ¬ 9223372036854775807 < 1 + (itoaB (k : Int)).size := by omega
                have et0 := bt.c0
                have et1 := bt.c1
                have lt := bt.lt
                have eu0 := bu.c0
                have eu1 := bu.c1
                have lu := bu.lt
                have re0 := rb.c0
                have rf0 := rf 0
                have re1 := rb.c1
                have rf1 := rf 1
                have rl := rb.lt
                go_wp2_with fail
                refine wp_region_B [fun v _ => v = .slice (some ⟨b, off, none⟩) l.length vc, fun v _ => v = .int .i64 k, fun v _ => v = .pointer (some ⟨b, off + k * 4, none⟩), fun v _ => v = .pointer (some ⟨b, off + k * 4, none⟩), fun v _ => v = .agg #[.string l[k].1.name, .slice xa l[k].1.args.length xc], fun v _ => v = .agg #[.string t.name, .slice ta t.args.length tc], fun v _ => v = .bool true, fun v _ => v = .bool true, fun v _ => v = .slice (some ⟨b, off, none⟩) l.length vc, fun v _ => v = .int .i64 k, fun v _ => v = .pointer (some ⟨b, off + k * 4, none⟩), fun v _ => v = .pointer (some ⟨b, off + k * 4 + 2, none⟩), fun v _ => v = .agg #[.string l[k].2.name, .slice ya l[k].2.args.length yc], fun v _ => v = .agg #[.string u.name, .slice ua u.args.length uc], fun v _ => v = .bool true, fun v _ => v = .bool true] _ (fun V => by simp [putAll, Act.put]; rfl) (by kernel_rfl) (by decide) (by simp) (by kernel_rfl) ?_ ?_ ?_
                · intro F hF
                  simp only [List.mem_cons, List.not_mem_nil, or_false] at hF
                  rcases hF with rfl | rfl | rfl | rfl | rfl | rfl | rfl | rfl | rfl | rfl | rfl | rfl | rfl | rfl | rfl | rfl
                  · exact stable_eq
                  · exact stable_eq
                  · exact stable_eq
                  · exact stable_eq
                  · exact stable_eq
                  · exact stable_eq
                  · exact stable_eq
                  · exact stable_eq
                  · exact stable_eq
                  · exact stable_eq
                  · exact stable_eq
                  · exact stable_eq
                  · exact stable_eq
                  · exact stable_eq
                  · exact stable_eq
                  · exact stable_eq
                · refine ⟨?_, ?_, ?_, ?_, ?_, ?_, ?_, ?_, ?_, ?_, ?_, ?_, ?_, ?_, ?_, ?_, trivial⟩
                  · intro V w1 hbR _
                    unfold Does
                    go_simp
                    exact ⟨Below.refl _ _, rfl⟩
                  · intro V w1 hbR _
                    unfold Does
                    go_simp
                    exact ⟨Below.refl _ _, rfl⟩
                  · intro V w1 hbR ⟨f0, f1, _⟩
                    replace f0 : V 0 = .slice (some ⟨b, off, none⟩) l.length vc := f0
                    replace f1 : V 1 = .int .i64 k := f1
                    unfold Does
                    go_simp
                    exact ⟨Below.refl _ _, rfl⟩
                  · intro V w1 hbR ⟨f2, _⟩
                    replace f2 : V 2 = .pointer (some ⟨b, off + k * 4, none⟩) := f2
                    unfold Does
                    go_simp
                    exact ⟨Below.refl _ _, rfl⟩
                  · intro V w1 hbR ⟨f3, _⟩
                    replace f3 : V 3 = .pointer (some ⟨b, off + k * 4, none⟩) := f3
                    obtain ⟨hc, hf⟩ := bcell hbR
                    try simp only [World.size_alloc, World.size_setCell] at hc hf
                    unfold Does
                    go_simp
                    exact ⟨Below.refl _ _, rfl⟩
                  · intro V w1 hbR _
                    obtain ⟨hc, hf⟩ := bcell hbR
                    try simp only [World.size_alloc, World.size_setCell] at hc hf
                    unfold Does
                    go_simp
                    exact ⟨Below.refl _ _, rfl⟩
                  · intro V w1 hbR ⟨f4, f5, _⟩
                    replace f4 : V 4 = .agg #[.string l[k].1.name, .slice xa l[k].1.args.length xc] := f4
                    replace f5 : V 5 = .agg #[.string t.name, .slice ta t.args.length tc] := f5
                    obtain ⟨hc, hf⟩ := bcell hbR
                    try simp only [World.size_alloc, World.size_setCell] at hc hf
                    unfold Does
                    go_simp
                    exact (HS1.out _ _ _ _ _ _ (Tm.at_keep (Keeps.all hbR) (Tm.at_all hqx.out)) (Tm.at_keep (Keeps.all hbR) (Tm.at_all ht))).mono (fun _ _ ⟨h1, h2⟩ => ⟨_, h1, h2, rfl⟩)
                  · intro V w1 hbR ⟨f6, _, _⟩
                    replace f6 : V 6 = .bool true := f6
                    unfold Does
                    go_simp
                    exact ⟨Below.refl _ _, rfl⟩
                  · intro V w1 hbR ⟨f7, _⟩
                    replace f7 : V 7 = .bool true := f7
                    refine .inl ⟨_, f7, fun hg => ?_, fun hg => ?_⟩
                    · unfold Does
                      go_simp
                      exact ⟨Below.refl _ _, rfl⟩
                    · exact absurd rfl hg
                  · intro V w1 hbR ⟨f7, _⟩
                    replace f7 : V 7 = .bool true := f7
                    refine .inl ⟨_, f7, fun hg => ?_, fun hg => ?_⟩
                    · unfold Does
                      go_simp
                      exact ⟨Below.refl _ _, rfl⟩
                    · exact absurd rfl hg
                  · intro V w1 hbR ⟨f8, f9, f7, _⟩
                    replace f7 : V 7 = .bool true := f7
                    replace f8 : V 8 = .slice (some ⟨b, off, none⟩) l.length vc := f8
                    replace f9 : V 9 = .int .i64 k := f9
                    refine .inl ⟨_, f7, fun hg => ?_, fun hg => ?_⟩
                    · unfold Does
                      go_simp
                      exact ⟨Below.refl _ _, rfl⟩
                    · exact absurd rfl hg
                  · intro V w1 hbR ⟨f10, f7, _⟩
                    replace f7 : V 7 = .bool true := f7
                    replace f10 : V 10 = .pointer (some ⟨b, off + k * 4, none⟩) := f10
                    refine .inl ⟨_, f7, fun hg => ?_, fun hg => ?_⟩
                    · unfold Does
                      go_simp
                      exact ⟨Below.refl _ _, rfl⟩
                    · exact absurd rfl hg
                  · intro V w1 hbR ⟨f11, f7, _⟩
                    replace f7 : V 7 = .bool true := f7
                    replace f11 : V 11 = .pointer (some ⟨b, off + k * 4 + 2, none⟩) := f11
                    refine .inl ⟨_, f7, fun hg => ?_, fun hg => ?_⟩
                    · obtain ⟨hc, hf⟩ := bcell hbR
                      try simp only [World.size_alloc, World.size_setCell] at hc hf
                      unfold Does
                      go_simp
                      exact ⟨Below.refl _ _, rfl⟩
                    · exact absurd rfl hg
                  · intro V w1 hbR ⟨f7, _⟩
                    replace f7 : V 7 = .bool true := f7
                    refine .inl ⟨_, f7, fun hg => ?_, fun hg => ?_⟩
                    · obtain ⟨hc, hf⟩ := bcell hbR
                      try simp only [World.size_alloc, World.size_setCell] at hc hf
                      unfold Does
                      go_simp
                      exact ⟨Below.refl _ _, rfl⟩
                    · exact absurd rfl hg
                  · intro V w1 hbR ⟨f12, f13, f7, _, _⟩
                    replace f7 : V 7 = .bool true := f7
                    replace f12 : V 12 = .agg #[.string l[k].2.name, .slice ya l[k].2.args.length yc] := f12
                    replace f13 : V 13 = .agg #[.string u.name, .slice ua u.args.length uc] := f13
                    refine .inl ⟨_, f7, fun hg => ?_, fun hg => ?_⟩
                    · obtain ⟨hc, hf⟩ := bcell hbR
                      try simp only [World.size_alloc, World.size_setCell] at hc hf
                      unfold Does
                      go_simp
                      exact (HS2.out _ _ _ _ _ _ (Tm.at_keep (Keeps.all hbR) (Tm.at_all hqy.out)) (Tm.at_keep (Keeps.all hbR) (Tm.at_all hu))).mono (fun _ _ ⟨h1, h2⟩ => ⟨_, h1, h2, rfl⟩)
                    · exact absurd rfl hg
                  · intro V w1 hbR ⟨f7, f14, _⟩
                    replace f7 : V 7 = .bool true := f7
                    replace f14 : V 14 = .bool true := f14
                    unfold Does
                    go_simp
                    exact ⟨Below.refl _ _, rfl⟩
                intro V w3 hbR hfR
                obtain ⟨f0, f1, f2, f3, f4, f5, f6, f7, f8, f9, f10, f11, f12, f13, f14, f15, _⟩ := hfR
                replace f0 : V 0 = .slice (some ⟨b, off, none⟩) l.length vc := f0
                replace f1 : V 1 = .int .i64 k := f1
                replace f2 : V 2 = .pointer (some ⟨b, off + k * 4, none⟩) := f2
                replace f3 : V 3 = .pointer (some ⟨b, off + k * 4, none⟩) := f3
                replace f4 : V 4 = .agg #[.string l[k].1.name, .slice xa l[k].1.args.length xc] := f4
                replace f5 : V 5 = .agg #[.string t.name, .slice ta t.args.length tc] := f5
                replace f6 : V 6 = .bool true := f6
                replace f7 : V 7 = .bool true := f7
                replace f8 : V 8 = .slice (some ⟨b, off, none⟩) l.length vc := f8
                replace f9 : V 9 = .int .i64 k := f9
                replace f10 : V 10 = .pointer (some ⟨b, off + k * 4, none⟩) := f10
                replace f11 : V 11 = .pointer (some ⟨b, off + k * 4 + 2, none⟩) := f11
                replace f12 : V 12 = .agg #[.string l[k].2.name, .slice ya l[k].2.args.length yc] := f12
                replace f13 : V 13 = .agg #[.string u.name, .slice ua u.args.length uc] := f13
                replace f14 : V 14 = .bool true := f14
                replace f15 : V 15 = .bool true := f15
                simp only [f0, f1, f2, f3, f4, f5, f6, f7, f8, f9, f10, f11, f12, f13, f14, f15]
                clear f0 f1 f2 f3 f4 f5 f6 f7 f8 f9 f10 f11 f12 f13 f14 f15
                clear et0 et1 lt eu0 eu1 lu re0 rf0 re1 rf1 rl
                have hb := hbR
                replace hW := hW.trans (hb.mono hW.size)
                replace bt := bt.keep hb
                replace ht := Tm.at_keep (Keeps.all hb) ht
                replace bu := bu.keep hb
                replace hu := Tm.at_keep (Keeps.all hb) hu
                replace rf := fun p => (hb.frozen (p := ⟨_, p, none⟩) rb.lt).trans (rf p)
                replace rb := rb.keep hb
                clear hb hbR q0 q1 q2 q3 q3'
                have et0 := bt.c0
                have et1 := bt.c1
                have lt := bt.lt
                have eu0 := bu.c0
                have eu1 := bu.c1
                have lu := bu.lt
                have re0 := rb.c0
                have rf0 := rf 0
                have re1 := rb.c1
                have rf1 := rf 1
                have rl := rb.lt
                go_wp2_with fail
                clear et0 et1 lt eu0 eu1 lu re0 rf0 re1 rf1 rl
                refine (HNUM.out _).mono ?_
                rintro e w4 ⟨_, rfl, hb, rfl⟩
                replace hW := hW.trans (hb.mono hW.size)
                replace bt := bt.keep hb
                replace ht := Tm.at_keep (Keeps.all hb) ht
                replace bu := bu.keep hb
                replace hu := Tm.at_keep (Keeps.all hb) hu
                replace rf := fun p => (hb.frozen (p := ⟨_, p, none⟩) rb.lt).trans (rf p)
                replace rb := rb.keep hb
                clear hb
                have et0 := bt.c0
                have et1 := bt.c1
                have lt := bt.lt
                have eu0 := bu.c0
                have eu1 := bu.c1
                have lu := bu.lt
                have re0 := rb.c0
                have rf0 := rf 0
                have re1 := rb.c1
                have rf1 := rf 1
                have rl := rb.lt
                go_wp2_with fail
                refine bodyPost_ret (v := .tuple #[.agg #[.string (⟨#[71]⟩ ++ itoaB (k : Int)), .slice none 0 0], .slice (some ⟨b, off, none⟩) l.length vc]) (by simp [results, Tryd.results13, go_sem, rb.c0, rb.c1]; try rfl) rfl ?_
                have HWF := hid ((hW.setCell (p := ⟨w.heap.size + 1 + 1, 0, none⟩) (by show w.heap.size ≤ w.heap.size + 1 + 1; omega) (.string (⟨#[71]⟩ ++ itoaB (k : Int)))).setCell (p := ⟨w.heap.size + 1 + 1, 1, none⟩) (by show w.heap.size ≤ w.heap.size + 1 + 1; omega) (.slice none 0 0))
                rw [HRR.out]
                exact ⟨.slice none 0 0, [], _, rfl, D.own_nil _ _, by simp, by simp, HV.out.keep HWF.out, grown_of_below HWF.out _, Goes.refl _ _⟩
              | false =>
                have HKN : Hid (∀ j (h : j < l.length), j < k + 1 → eqP l[j] t u = false) := fun j h hj => by
                  by_cases hjk : j < k
                  · exact HK.out j h hjk
                  · obtain rfl : j = k := by omega
                    exact HEQ.out
                have et0 := bt.c0
                have et1 := bt.c1
                have lt := bt.lt
                have eu0 := bu.c0
                have eu1 := bu.c1
                have lu := bu.lt
                have re0 := rb.c0
                have rf0 := rf 0
                have re1 := rb.c1
                have rf1 := rf 1
                have rl := rb.lt
                go_wp2_with fail
                refine wp_region_B [fun v _ => v = .slice (some ⟨b, off, none⟩) l.length vc, fun v _ => v = .int .i64 k, fun v _ => v = .pointer (some ⟨b, off + k * 4, none⟩), fun v _ => v = .pointer (some ⟨b, off + k * 4, none⟩), fun v _ => v = .agg #[.string l[k].1.name, .slice xa l[k].1.args.length xc], fun v _ => v = .agg #[.string t.name, .slice ta t.args.length tc], fun v _ => v = .bool true, fun v _ => v = .bool true, fun v _ => v = .slice (some ⟨b, off, none⟩) l.length vc, fun v _ => v = .int .i64 k, fun v _ => v = .pointer (some ⟨b, off + k * 4, none⟩), fun v _ => v = .pointer (some ⟨b, off + k * 4 + 2, none⟩), fun v _ => v = .agg #[.string l[k].2.name, .slice ya l[k].2.args.length yc], fun v _ => v = .agg #[.string u.name, .slice ua u.args.length uc], fun v _ => v = .bool false, fun v _ => v = .bool false] _ (fun V => by simp [putAll, Act.put]; rfl) (by kernel_rfl) (by decide) (by simp) (by kernel_rfl) ?_ ?_ ?_
                · intro F hF
                  simp only [List.mem_cons, List.not_mem_nil, or_false] at hF
                  rcases hF with rfl | rfl | rfl | rfl | rfl | rfl | rfl | rfl | rfl | rfl | rfl | rfl | rfl | rfl | rfl | rfl
                  · exact stable_eq
                  · exact stable_eq
                  · exact stable_eq
                  · exact stable_eq
                  · exact stable_eq
                  · exact stable_eq
                  · exact stable_eq
                  · exact stable_eq
                  · exact stable_eq
                  · exact stable_eq
                  · exact stable_eq
                  · exact stable_eq
                  · exact stable_eq
                  · exact stable_eq
                  · exact stable_eq
                  · exact stable_eq
                · refine ⟨?_, ?_, ?_, ?_, ?_, ?_, ?_, ?_, ?_, ?_, ?_, ?_, ?_, ?_, ?_, ?_, trivial⟩
                  · intro V w1 hbR _
                    unfold Does
                    go_simp
                    exact ⟨Below.refl _ _, rfl⟩
                  · intro V w1 hbR _
                    unfold Does
                    go_simp
                    exact ⟨Below.refl _ _, rfl⟩
                  · intro V w1 hbR ⟨f0, f1, _⟩
                    replace f0 : V 0 = .slice (some ⟨b, off, none⟩) l.length vc := f0
                    replace f1 : V 1 = .int .i64 k := f1
                    unfold Does
                    go_simp
                    exact ⟨Below.refl _ _, rfl⟩
                  · intro V w1 hbR ⟨f2, _⟩
                    replace f2 : V 2 = .pointer (some ⟨b, off + k * 4, none⟩) := f2
                    unfold Does
                    go_simp
                    exact ⟨Below.refl _ _, rfl⟩
                  · intro V w1 hbR ⟨f3, _⟩
                    replace f3 : V 3 = .pointer (some ⟨b, off + k * 4, none⟩) := f3
                    obtain ⟨hc, hf⟩ := bcell hbR
                    try simp only [World.size_alloc, World.size_setCell] at hc hf
                    unfold Does
                    go_simp
                    exact ⟨Below.refl _ _, rfl⟩
                  · intro V w1 hbR _
                    obtain ⟨hc, hf⟩ := bcell hbR
                    try simp only [World.size_alloc, World.size_setCell] at hc hf
                    unfold Does
                    go_simp
                    exact ⟨Below.refl _ _, rfl⟩
                  · intro V w1 hbR ⟨f4, f5, _⟩
                    replace f4 : V 4 = .agg #[.string l[k].1.name, .slice xa l[k].1.args.length xc] := f4
                    replace f5 : V 5 = .agg #[.string t.name, .slice ta t.args.length tc] := f5
                    obtain ⟨hc, hf⟩ := bcell hbR
                    try simp only [World.size_alloc, World.size_setCell] at hc hf
                    unfold Does
                    go_simp
                    exact (HS1.out _ _ _ _ _ _ (Tm.at_keep (Keeps.all hbR) (Tm.at_all hqx.out)) (Tm.at_keep (Keeps.all hbR) (Tm.at_all ht))).mono (fun _ _ ⟨h1, h2⟩ => ⟨_, h1, h2, rfl⟩)
                  · intro V w1 hbR ⟨f6, _, _⟩
                    replace f6 : V 6 = .bool true := f6
                    unfold Does
                    go_simp
                    exact ⟨Below.refl _ _, rfl⟩
                  · intro V w1 hbR ⟨f7, _⟩
                    replace f7 : V 7 = .bool true := f7
                    refine .inl ⟨_, f7, fun hg => ?_, fun hg => ?_⟩
                    · unfold Does
                      go_simp
                      exact ⟨Below.refl _ _, rfl⟩
                    · exact absurd rfl hg
                  · intro V w1 hbR ⟨f7, _⟩
                    replace f7 : V 7 = .bool true := f7
                    refine .inl ⟨_, f7, fun hg => ?_, fun hg => ?_⟩
                    · unfold Does
                      go_simp
                      exact ⟨Below.refl _ _, rfl⟩
                    · exact absurd rfl hg
                  · intro V w1 hbR ⟨f8, f9, f7, _⟩
                    replace f7 : V 7 = .bool true := f7
                    replace f8 : V 8 = .slice (some ⟨b, off, none⟩) l.length vc := f8
                    replace f9 : V 9 = .int .i64 k := f9
                    refine .inl ⟨_, f7, fun hg => ?_, fun hg => ?_⟩
                    · unfold Does
                      go_simp
                      exact ⟨Below.refl _ _, rfl⟩
                    · exact absurd rfl hg
                  · intro V w1 hbR ⟨f10, f7, _⟩
                    replace f7 : V 7 = .bool true := f7
                    replace f10 : V 10 = .pointer (some ⟨b, off + k * 4, none⟩) := f10
                    refine .inl ⟨_, f7, fun hg => ?_, fun hg => ?_⟩
                    · unfold Does
                      go_simp
                      exact ⟨Below.refl _ _, rfl⟩
                    · exact absurd rfl hg
                  · intro V w1 hbR ⟨f11, f7, _⟩
                    replace f7 : V 7 = .bool true := f7
                    replace f11 : V 11 = .pointer (some ⟨b, off + k * 4 + 2, none⟩) := f11
                    refine .inl ⟨_, f7, fun hg => ?_, fun hg => ?_⟩
                    · obtain ⟨hc, hf⟩ := bcell hbR
                      try simp only [World.size_alloc, World.size_setCell] at hc hf
                      unfold Does
                      go_simp
                      exact ⟨Below.refl _ _, rfl⟩
                    · exact absurd rfl hg
                  · intro V w1 hbR ⟨f7, _⟩
                    replace f7 : V 7 = .bool true := f7
                    refine .inl ⟨_, f7, fun hg => ?_, fun hg => ?_⟩
                    · obtain ⟨hc, hf⟩ := bcell hbR
                      try simp only [World.size_alloc, World.size_setCell] at hc hf
                      unfold Does
                      go_simp
                      exact ⟨Below.refl _ _, rfl⟩
                    · exact absurd rfl hg
                  · intro V w1 hbR ⟨f12, f13, f7, _, _⟩
                    replace f7 : V 7 = .bool true := f7
                    replace f12 : V 12 = .agg #[.string l[k].2.name, .slice ya l[k].2.args.length yc] := f12
                    replace f13 : V 13 = .agg #[.string u.name, .slice ua u.args.length uc] := f13
                    refine .inl ⟨_, f7, fun hg => ?_, fun hg => ?_⟩
                    · obtain ⟨hc, hf⟩ := bcell hbR
                      try simp only [World.size_alloc, World.size_setCell] at hc hf
                      unfold Does
                      go_simp
                      exact (HS2.out _ _ _ _ _ _ (Tm.at_keep (Keeps.all hbR) (Tm.at_all hqy.out)) (Tm.at_keep (Keeps.all hbR) (Tm.at_all hu))).mono (fun _ _ ⟨h1, h2⟩ => ⟨_, h1, h2, rfl⟩)
                    · exact absurd rfl hg
                  · intro V w1 hbR ⟨f7, f14, _⟩
                    replace f7 : V 7 = .bool true := f7
                    replace f14 : V 14 = .bool false := f14
                    unfold Does
                    go_simp
                    exact ⟨Below.refl _ _, rfl⟩
                intro V w3 hbR hfR
                obtain ⟨f0, f1, f2, f3, f4, f5, f6, f7, f8, f9, f10, f11, f12, f13, f14, f15, _⟩ := hfR
                replace f0 : V 0 = .slice (some ⟨b, off, none⟩) l.length vc := f0
                replace f1 : V 1 = .int .i64 k := f1
                replace f2 : V 2 = .pointer (some ⟨b, off + k * 4, none⟩) := f2
                replace f3 : V 3 = .pointer (some ⟨b, off + k * 4, none⟩) := f3
                replace f4 : V 4 = .agg #[.string l[k].1.name, .slice xa l[k].1.args.length xc] := f4
                replace f5 : V 5 = .agg #[.string t.name, .slice ta t.args.length tc] := f5
                replace f6 : V 6 = .bool true := f6
                replace f7 : V 7 = .bool true := f7
                replace f8 : V 8 = .slice (some ⟨b, off, none⟩) l.length vc := f8
                replace f9 : V 9 = .int .i64 k := f9
                replace f10 : V 10 = .pointer (some ⟨b, off + k * 4, none⟩) := f10
                replace f11 : V 11 = .pointer (some ⟨b, off + k * 4 + 2, none⟩) := f11
                replace f12 : V 12 = .agg #[.string l[k].2.name, .slice ya l[k].2.args.length yc] := f12
                replace f13 : V 13 = .agg #[.string u.name, .slice ua u.args.length uc] := f13
                replace f14 : V 14 = .bool false := f14
                replace f15 : V 15 = .bool false := f15
                simp only [f0, f1, f2, f3, f4, f5, f6, f7, f8, f9, f10, f11, f12, f13, f14, f15]
                clear f0 f1 f2 f3 f4 f5 f6 f7 f8 f9 f10 f11 f12 f13 f14 f15
                clear et0 et1 lt eu0 eu1 lu re0 rf0 re1 rf1 rl
                have HBN := hid (HB.out.trans (hbR.mono HB.out.size))
                go_wp2_with fail
                go_roundw
                case rel => exact ⟨k + 1, by omega, by go_num, HKN, HBN⟩
                case measure => simp [intOf]; omega
            | false =>
              have HKN : Hid (∀ j (h : j < l.length), j < k + 1 → eqP l[j] t u = false) := fun j h hj => by
                by_cases hjk : j < k
                · exact HK.out j h hjk
                · obtain rfl : j = k := by omega
                  rw [HEQ.out]; rfl
              have et0 := bt.c0
              have et1 := bt.c1
              have lt := bt.lt
              have eu0 := bu.c0
              have eu1 := bu.c1
              have lu := bu.lt
              have re0 := rb.c0
              have rf0 := rf 0
              have re1 := rb.c1
              have rf1 := rf 1
              have rl := rb.lt
              go_wp2_with fail
              refine wp_region_B [fun v _ => v = .slice (some ⟨b, off, none⟩) l.length vc, fun v _ => v = .int .i64 k, fun v _ => v = .pointer (some ⟨b, off + k * 4, none⟩), fun v _ => v = .pointer (some ⟨b, off + k * 4, none⟩), fun v _ => v = .agg #[.string l[k].1.name, .slice xa l[k].1.args.length xc], fun v _ => v = .agg #[.string t.name, .slice ta t.args.length tc], fun v _ => v = .bool false, fun v _ => v = .bool false, fun v _ => v = undef, fun v _ => v = undef, fun v _ => v = undef, fun v _ => v = undef, fun v _ => v = undef, fun v _ => v = undef, fun v _ => v = undef, fun v _ => v = .bool false] _ (fun V => by simp [putAll, Act.put]; rfl) (by kernel_rfl) (by decide) (by simp) (by kernel_rfl) ?_ ?_ ?_
              · intro F hF
                simp only [List.mem_cons, List.not_mem_nil, or_false] at hF
                rcases hF with rfl | rfl | rfl | rfl | rfl | rfl | rfl | rfl | rfl | rfl | rfl | rfl | rfl | rfl | rfl | rfl
                · exact stable_eq
                · exact stable_eq
                · exact stable_eq
                · exact stable_eq
                · exact stable_eq
                · exact stable_eq
                · exact stable_eq
                · exact stable_eq
                · exact stable_eq
                · exact stable_eq
                · exact stable_eq
                · exact stable_eq
                · exact stable_eq
                · exact stable_eq
                · exact stable_eq
                · exact stable_eq
              · refine ⟨?_, ?_, ?_, ?_, ?_, ?_, ?_, ?_, ?_, ?_, ?_, ?_, ?_, ?_, ?_, ?_, trivial⟩
                · intro V w1 hbR _
                  unfold Does
                  go_simp
                  exact ⟨Below.refl _ _, rfl⟩
                · intro V w1 hbR _
                  unfold Does
                  go_simp
                  exact ⟨Below.refl _ _, rfl⟩
                · intro V w1 hbR ⟨f0, f1, _⟩
                  replace f0 : V 0 = .slice (some ⟨b, off, none⟩) l.length vc := f0
                  replace f1 : V 1 = .int .i64 k := f1
                  unfold Does
                  go_simp
                  exact ⟨Below.refl _ _, rfl⟩
                · intro V w1 hbR ⟨f2, _⟩
                  replace f2 : V 2 = .pointer (some ⟨b, off + k * 4, none⟩) := f2
                  unfold Does
                  go_simp
                  exact ⟨Below.refl _ _, rfl⟩
                · intro V w1 hbR ⟨f3, _⟩
                  replace f3 : V 3 = .pointer (some ⟨b, off + k * 4, none⟩) := f3
                  obtain ⟨hc, hf⟩ := bcell hbR
                  try simp only [World.size_alloc, World.size_setCell] at hc hf
                  unfold Does
                  go_simp
                  exact ⟨Below.refl _ _, rfl⟩
                · intro V w1 hbR _
                  obtain ⟨hc, hf⟩ := bcell hbR
                  try simp only [World.size_alloc, World.size_setCell] at hc hf
                  unfold Does
                  go_simp
                  exact ⟨Below.refl _ _, rfl⟩
                · intro V w1 hbR ⟨f4, f5, _⟩
                  replace f4 : V 4 = .agg #[.string l[k].1.name, .slice xa l[k].1.args.length xc] := f4
                  replace f5 : V 5 = .agg #[.string t.name, .slice ta t.args.length tc] := f5
                  obtain ⟨hc, hf⟩ := bcell hbR
                  try simp only [World.size_alloc, World.size_setCell] at hc hf
                  unfold Does
                  go_simp
                  exact (HS1.out _ _ _ _ _ _ (Tm.at_keep (Keeps.all hbR) (Tm.at_all hqx.out)) (Tm.at_keep (Keeps.all hbR) (Tm.at_all ht))).mono (fun _ _ ⟨h1, h2⟩ => ⟨_, h1, h2, rfl⟩)
                · intro V w1 hbR ⟨f6, _, _⟩
                  replace f6 : V 6 = .bool false := f6
                  unfold Does
                  go_simp
                  exact ⟨Below.refl _ _, rfl⟩
                · intro V w1 hbR ⟨f7, _⟩
                  replace f7 : V 7 = .bool false := f7
                  refine .inl ⟨_, f7, fun hg => ?_, fun hg => ?_⟩
                  · exact absurd hg (by decide)
                  · rfl
                · intro V w1 hbR ⟨f7, _⟩
                  replace f7 : V 7 = .bool false := f7
                  refine .inl ⟨_, f7, fun hg => ?_, fun hg => ?_⟩
                  · exact absurd hg (by decide)
                  · rfl
                · intro V w1 hbR ⟨f8, f9, f7, _⟩
                  replace f7 : V 7 = .bool false := f7
                  replace f8 : V 8 = undef := f8
                  replace f9 : V 9 = undef := f9
                  refine .inl ⟨_, f7, fun hg => ?_, fun hg => ?_⟩
                  · exact absurd hg (by decide)
                  · rfl
                · intro V w1 hbR ⟨f10, f7, _⟩
                  replace f7 : V 7 = .bool false := f7
                  replace f10 : V 10 = undef := f10
                  refine .inl ⟨_, f7, fun hg => ?_, fun hg => ?_⟩
                  · exact absurd hg (by decide)
                  · rfl
                · intro V w1 hbR ⟨f11, f7, _⟩
                  replace f7 : V 7 = .bool false := f7
                  replace f11 : V 11 = undef := f11
                  refine .inl ⟨_, f7, fun hg => ?_, fun hg => ?_⟩
                  · exact absurd hg (by decide)
                  · rfl
                · intro V w1 hbR ⟨f7, _⟩
                  replace f7 : V 7 = .bool false := f7
                  refine .inl ⟨_, f7, fun hg => ?_, fun hg => ?_⟩
                  · exact absurd hg (by decide)
                  · rfl
                · intro V w1 hbR ⟨f12, f13, f7, _, _⟩
                  replace f7 : V 7 = .bool false := f7
                  replace f12 : V 12 = undef := f12
                  replace f13 : V 13 = undef := f13
                  refine .inl ⟨_, f7, fun hg => ?_, fun hg => ?_⟩
                  · exact absurd hg (by decide)
                  · rfl
                · intro V w1 hbR ⟨f7, f14, _⟩
                  replace f7 : V 7 = .bool false := f7
                  replace f14 : V 14 = undef := f14
                  unfold Does
                  go_simp
                  exact ⟨Below.refl _ _, rfl⟩
              intro V w3 hbR hfR
              obtain ⟨f0, f1, f2, f3, f4, f5, f6, f7, f8, f9, f10, f11, f12, f13, f14, f15, _⟩ := hfR
              replace f0 : V 0 = .slice (some ⟨b, off, none⟩) l.length vc := f0
              replace f1 : V 1 = .int .i64 k := f1
              replace f2 : V 2 = .pointer (some ⟨b, off + k * 4, none⟩) := f2
              replace f3 : V 3 = .pointer (some ⟨b, off + k * 4, none⟩) := f3
              replace f4 : V 4 = .agg #[.string l[k].1.name, .slice xa l[k].1.args.length xc] := f4
              replace f5 : V 5 = .agg #[.string t.name, .slice ta t.args.length tc] := f5
              replace f6 : V 6 = .bool false := f6
              replace f7 : V 7 = .bool false := f7
              replace f8 : V 8 = undef := f8
              replace f9 : V 9 = undef := f9
              replace f10 : V 10 = undef := f10
              replace f11 : V 11 = undef := f11
              replace f12 : V 12 = undef := f12
              replace f13 : V 13 = undef := f13
              replace f14 : V 14 = undef := f14
              replace f15 : V 15 = .bool false := f15
              simp only [f0, f1, f2, f3, f4, f5, f6, f7, f8, f9, f10, f11, f12, f13, f14, f15]
              clear f0 f1 f2 f3 f4 f5 f6 f7 f8 f9 f10 f11 f12 f13 f14 f15
              clear et0 et1 lt eu0 eu1 lu re0 rf0 re1 rf1 rl
              have HBN := hid (HB.out.trans (hbR.mono HB.out.size))
              go_wp2_with fail
              go_roundw
              case rel => exact ⟨k + 1, by omega, by go_num, HKN, HBN⟩
              case measure => simp [intOf]; omega
          · obtain rfl : k = l.length := by omega
            have HI : Hid (idxP l t u = l.length) := idxP_end HK.out
            have HRR : Hid (R = (.node (⟨#[71]⟩ ++ itoaB (l.length : Int)) [], l ++ [(t, u)])) := by
              rw [Hid, HGO.out, genVar, HI.out, addP, HI.out, if_neg (by omega)]; rfl
            have HNUM := hid (l1Num_any (l.length : Int) (by omega) (by omega))
            have hzi := itoaB_size (n := (l.length : Int)) (by omega) (by omega)
            have g4 : ¬ 9223372036854775807 < 1 + (itoaB (l.length : Int)).size := by omega
            obtain ⟨r, Hr⟩ : ∃ r, Hid ((Value.slice va l.length vc).ownBlock = r) := ⟨_, hid rfl⟩
            have HL : Hid (∀ y, r = some y → B ≤ y ∧ y < w.heap.size) := fun y hy => HVL.out y (Hr.out.trans hy)
            have nR : ¬ r = some (w.heap.size + 1 + 1) := fun e => by have := HL.out _ e; omega
            have nT : ¬ r = some w.heap.size := fun e => by have := HL.out _ e; omega
            have nU : ¬ r = some (w.heap.size + 1) := fun e => by have := HL.out _ e; omega
            have HRV := hid (HV.out.keep HWR.out)
            have HNS : Hid (∀ y, (Value.slice va l.length vc).ownBlock = some y → ¬ S y) := fun y hy q => by have h1 := (HVL.out y hy).1; have h2 := HS.out y q; omega
            have HCR : Hid (CellsRd S wr [.string t.name, .slice ta t.args.length tc, .string u.name, .slice ua u.args.length uc] (prCs (t, u))) := ⟨ht.1, ht.2, hu.1, hu.2, trivial⟩
            have HBW := hid hB
            have hltn : ¬ (l.length : Int) < (l.length : Int) := by omega
            have et0 := bt.c0
            have et1 := bt.c1
            have lt := bt.lt
            have eu0 := bu.c0
            have eu1 := bu.c1
            have lu := bu.lt
            have re0 := rb.c0
            have rf0 := rf 0
            have re1 := rb.c1
            have rf1 := rf 1
            have rl := rb.lt
            go_wp2_with fail
            refine region_late (l := [_, _, _, _, _, _, _, _, _, _, _]) (tl := [_, _]) (S := fun w1 => (wr).grownBy w1 (r)) (n := 11) rfl rfl (by kernel_rfl) (by kernel_rfl) (grown_of_below ((Below.refl _ _).drew) _) (fun hQL hS => ?_)
            refine late_take (i := 0) (d := some 59) (v := .slice va l.length vc) rfl rfl (by kernel_rfl) (by kernel_rfl) (by kernel_rfl) hQL (by rfl) (fun w1 _ => (by go_simp)) hS ?_
            try simp only [Act.put, List.setIfInBounds_toArray, List.set_cons_zero, List.set_cons_succ]
            refine late_take (i := 1) (d := some 60) (v := .int .i64 l.length) rfl rfl (by kernel_rfl) (by kernel_rfl) (by kernel_rfl) hQL (by rfl) (fun w1 _ => (by go_simp)) hS ?_
            try simp only [Act.put, List.setIfInBounds_toArray, List.set_cons_zero, List.set_cons_succ]
            refine late_take (i := 5) (d := some 64) (v := .slice va l.length vc) rfl rfl (by kernel_rfl) (by kernel_rfl) (by kernel_rfl) hQL (by rfl) (fun w1 _ => (by go_simp)) hS ?_
            try simp only [Act.put, List.setIfInBounds_toArray, List.set_cons_zero, List.set_cons_succ]
            refine late_take (i := 6) (d := some 65) (v := .agg #[.string t.name, .slice ta t.args.length tc]) rfl rfl (by kernel_rfl) (by kernel_rfl) (by kernel_rfl) hQL (by rfl) (fun w1 hS1 => (by obtain ⟨hc, hf⟩ := bcellG hS1; go_simp)) hS ?_
            try simp only [Act.put, List.setIfInBounds_toArray, List.set_cons_zero, List.set_cons_succ]
            refine late_take (i := 7) (d := some 66) (v := .agg #[.string u.name, .slice ua u.args.length uc]) rfl rfl (by kernel_rfl) (by kernel_rfl) (by kernel_rfl) hQL (by rfl) (fun w1 hS1 => (by obtain ⟨hc, hf⟩ := bcellG hS1; go_simp)) hS ?_
            try simp only [Act.put, List.setIfInBounds_toArray, List.set_cons_zero, List.set_cons_succ]
            refine late_take (i := 8) (d := some 67) (v := .agg #[.string t.name, .slice ta t.args.length tc, .string u.name, .slice ua u.args.length uc]) rfl rfl (by kernel_rfl) (by kernel_rfl) (by kernel_rfl) hQL (by rfl) (fun w1 _ => (by go_simp)) hS ?_
            try simp only [Act.put, List.setIfInBounds_toArray, List.set_cons_zero, List.set_cons_succ]
            refine wpAnyH_ready (rs := [2, 9]) (by kernel_rfl) (by simp) ?_
            refine AllReadyH.cons rfl (fun K hK => ?_) (AllReadyH.cons rfl (fun K hK => ?_) AllReadyH.nil)
            · skip
              refine step_does rfl ?_
              unfold Does
              go_simp
              go_at_call 24
              refine (HNUM.out _).mono ?_
              rintro e wn ⟨_, rfl, hbn, rfl⟩
              have HBN : Hid (Below wr.heap.size wr wn) := ((Below.refl _ _).drew).trans (hbn.mono (Nat.le_refl _))
              clear hbn
              refine ⟨_, rfl, ?_⟩
              refine hK.out _ _ (grown_of_below HBN.out _) (fun hS => ?_)
              try show wpAnyH _ _ _ _ _ _ _ (Act.put _ (some 61) _) _
              try simp only [Act.put, List.setIfInBounds_toArray, List.set_cons_zero, List.set_cons_succ]
              refine late_take (i := 3) (d := some 62) (v := .string (⟨#[71]⟩ ++ itoaB (l.length : Int))) rfl rfl (by kernel_rfl) (by kernel_rfl) (by kernel_rfl) hQL (by rfl) (fun w1 _ => (by go_simp)) hS ?_
              try simp only [Act.put, List.setIfInBounds_toArray, List.set_cons_zero, List.set_cons_succ]
              refine late_take (i := 4) (d := some 63) (v := .agg #[.string (⟨#[71]⟩ ++ itoaB (l.length : Int)), .slice none 0 0]) rfl rfl (by kernel_rfl) (by kernel_rfl) (by kernel_rfl) hQL (by rfl) (fun w1 _ => (by go_simp)) hS ?_
              try simp only [Act.put, List.setIfInBounds_toArray, List.set_cons_zero, List.set_cons_succ]
              refine wpAnyH_ready (rs := [9]) (by kernel_rfl) (by simp) ?_
              refine AllReadyH.cons rfl (fun K hK => ?_) AllReadyH.nil
              go_simp
              refine hK.out _ _ (World.grownBy.trans hS (World.grownBy_alloc _ _ _)) (fun hS => ?_)
              try show wpAnyH _ _ _ _ _ _ _ (Act.put _ (some 68) _) _
              try simp only [Act.put, List.setIfInBounds_toArray, List.set_cons_zero, List.set_cons_succ]
              refine wpAnyH_ready (rs := [10]) (by kernel_rfl) (by simp) ?_
              refine AllReadyH.cons rfl (fun K hK => ?_) AllReadyH.nil
              refine step_append_rv (S := S) (B := B) (k := 1) (off := 0) (news := [.string t.name, .slice ta t.args.length tc, .string u.name, .slice ua u.args.length uc]) (es := prCs (t, u)) Tryd.underlying37 infoEqn rfl (by decide) (by decide) rfl _ _ (by rfl) (by rfl) (by rfl) (HRV.out.keep (HBN.out.alloc HBN.out.size _)) HNS.out rfl (by intro j u hj; rw [Nat.zero_add, box1]; simpa using hj) (HCR.out.keep (Keeps.all (HBN.out.alloc HBN.out.size _))) (by omega) (by rw [World.size_alloc]; have := HBN.out.size; have := HBW.out; omega) ?_
              intro v2 wg hrow hgr hgo
              rw [Hr.out] at hgr
              have HRF := hid hrow
              have HGO2 : Hid (Goes wr (.slice va l.length vc) v2) := fun y hy => by
                rcases hgo with q | q
                · exact .inl (q.symm.trans hy)
                · right; rw [q] at hy; injection hy with hy; rw [World.size_alloc] at hy; have := HBN.out.size; omega
              clear hrow hgo
              refine hK.out _ _ (World.grownBy.trans hS hgr) (fun hS => ?_)
              try show wpAnyH _ _ _ _ _ _ _ (Act.put _ (some 69) _) _
              try simp only [Act.put, List.setIfInBounds_toArray, List.set_cons_zero, List.set_cons_succ]
              refine wpAnyH_done (by kernel_rfl) ?_ _
              show wpTail _ _ _ _ _
              refine wpTail_step rfl (fun K hK => ?_)
              obtain ⟨hc, hf⟩ := bcellG hS
              go_simp
              refine hK.out _ _ ?_
              try clear hc hf
              refine wpTail_step rfl (fun K hK => ?_)
              obtain ⟨hc, hf⟩ := bcellG hS
              go_simp
              refine hK.out _ _ ?_
              try clear hc hf
              refine wpTail_nil ?_
              rename World => wF
              have z0 := ((bcellG hS).1 (w.heap.size + 1 + 1) 0 rl nR).trans re0
              have z1 := ((bcellG hS).1 (w.heap.size + 1 + 1) 1 rl nR).trans re1
              have HGF := hid (grown_trans (grown_of_below HWR.out r) hS (fun y hy => .inl hy))
              have HZF := hid hS.size
              clear hS
              go_wp2_with fail
              refine bodyPost_ret (v := .tuple #[.agg #[.string (⟨#[71]⟩ ++ itoaB (l.length : Int)), .slice none 0 0], v2]) (by simp [results, Tryd.results13, go_sem, z0, z1]; try rfl) rfl ?_
              have HG1 : Hid (wF.grownBy ((wF.setCell ⟨w.heap.size + 1 + 1, 0, none⟩ (.string (⟨#[71]⟩ ++ itoaB (l.length : Int)))).setCell ⟨w.heap.size + 1 + 1, 1, none⟩ (.slice none 0 0)) (some (w.heap.size + 1 + 1))) := (World.grownBy.trans (grown_setCell wF ⟨w.heap.size + 1 + 1, 0, none⟩ (.string (⟨#[71]⟩ ++ itoaB (l.length : Int)))) (grown_setCell _ ⟨w.heap.size + 1 + 1, 1, none⟩ (.slice none 0 0)))
              rw [HRR.out]
              refine ⟨.slice none 0 0, [], v2, rfl, D.own_nil _ _, by simp, by simp, ?_, ?_, Goes.trans (Goes.refl w _) hzw HGO2.out⟩
              · have HF2 := HRF.out.apart HG1.out (fun y hy e => by
                  injection e with e
                  rcases HGO2.out y hy with q | q
                  · have := (HVL.out y q).2; omega
                  · omega) (fun y hy e => by injection e with e; have := HS.out y hy; have := HBW.out; omega)
                rw [List.length_append, prCss_snoc]
                exact HF2
              · rw [Hr.out]
                exact grown_trans HGF.out HG1.out (fun y hy => by injection hy with hy; right; omega)
            · skip
              go_simp
              refine hK.out _ _ (World.grownBy.trans hS (World.grownBy_alloc _ _ _)) (fun hS => ?_)
              try show wpAnyH _ _ _ _ _ _ _ (Act.put _ (some 68) _) _
              try simp only [Act.put, List.setIfInBounds_toArray, List.set_cons_zero, List.set_cons_succ]
              refine wpAnyH_ready (rs := [2]) (by kernel_rfl) (by simp) ?_
              refine AllReadyH.cons rfl (fun K hK => ?_) AllReadyH.nil
              refine step_does rfl ?_
              unfold Does
              go_simp
              go_at_call 24
              refine (HNUM.out _).mono ?_
              rintro e wn ⟨_, rfl, hbn, rfl⟩
              have HBN : Hid (Below wr.heap.size wr wn) := (((Below.refl wr.heap.size wr).drew).alloc (Nat.le_refl _) _).trans (hbn.mono (by simp))
              have HIT : Hid (∀ j u', [Value.string t.name, .slice ta t.args.length tc, .string u.name, .slice ua u.args.length uc][j]? = some u' → wn.cell? ⟨wr.heap.size, 0 + j, none⟩ = some u') := fun j u' hj => by
                rw [Nat.zero_add]
                refine (hbn.cell (p := ⟨wr.heap.size, j, none⟩) (by simp)).trans ?_
                have h0 := box1 wr.drew #[Value.string t.name, .slice ta t.args.length tc, .string u.name, .slice ua u.args.length uc] 48 j
                exact h0.trans (by simpa using hj)
              clear hbn
              refine ⟨_, rfl, ?_⟩
              refine hK.out _ _ (grown_of_below HBN.out _) (fun hS => ?_)
              try show wpAnyH _ _ _ _ _ _ _ (Act.put _ (some 61) _) _
              try simp only [Act.put, List.setIfInBounds_toArray, List.set_cons_zero, List.set_cons_succ]
              refine late_take (i := 3) (d := some 62) (v := .string (⟨#[71]⟩ ++ itoaB (l.length : Int))) rfl rfl (by kernel_rfl) (by kernel_rfl) (by kernel_rfl) hQL (by rfl) (fun w1 _ => (by go_simp)) hS ?_
              try simp only [Act.put, List.setIfInBounds_toArray, List.set_cons_zero, List.set_cons_succ]
              refine late_take (i := 4) (d := some 63) (v := .agg #[.string (⟨#[71]⟩ ++ itoaB (l.length : Int)), .slice none 0 0]) rfl rfl (by kernel_rfl) (by kernel_rfl) (by kernel_rfl) hQL (by rfl) (fun w1 _ => (by go_simp)) hS ?_
              try simp only [Act.put, List.setIfInBounds_toArray, List.set_cons_zero, List.set_cons_succ]
              refine wpAnyH_ready (rs := [10]) (by kernel_rfl) (by simp) ?_
              refine AllReadyH.cons rfl (fun K hK => ?_) AllReadyH.nil
              refine step_append_rv (S := S) (B := B) (k := 1) (off := 0) (news := [.string t.name, .slice ta t.args.length tc, .string u.name, .slice ua u.args.length uc]) (es := prCs (t, u)) Tryd.underlying37 infoEqn rfl (by decide) (by decide) rfl _ _ (by rfl) (by rfl) (by rfl) (HRV.out.keep HBN.out) HNS.out rfl HIT.out (HCR.out.keep (Keeps.all HBN.out)) (by omega) (by have := HBN.out.size; have := HBW.out; omega) ?_
              intro v2 wg hrow hgr hgo
              rw [Hr.out] at hgr
              have HRF := hid hrow
              have HGO2 : Hid (Goes wr (.slice va l.length vc) v2) := fun y hy => by
                rcases hgo with q | q
                · exact .inl (q.symm.trans hy)
                · right; rw [q] at hy; injection hy with hy; have := HBN.out.size; omega
              clear hrow hgo
              refine hK.out _ _ (World.grownBy.trans hS hgr) (fun hS => ?_)
              try show wpAnyH _ _ _ _ _ _ _ (Act.put _ (some 69) _) _
              try simp only [Act.put, List.setIfInBounds_toArray, List.set_cons_zero, List.set_cons_succ]
              refine wpAnyH_done (by kernel_rfl) ?_ _
              show wpTail _ _ _ _ _
              refine wpTail_step rfl (fun K hK => ?_)
              obtain ⟨hc, hf⟩ := bcellG hS
              go_simp
              refine hK.out _ _ ?_
              try clear hc hf
              refine wpTail_step rfl (fun K hK => ?_)
              obtain ⟨hc, hf⟩ := bcellG hS
              go_simp
              refine hK.out _ _ ?_
              try clear hc hf
              refine wpTail_nil ?_
              rename World => wF
              have z0 := ((bcellG hS).1 (w.heap.size + 1 + 1) 0 rl nR).trans re0
              have z1 := ((bcellG hS).1 (w.heap.size + 1 + 1) 1 rl nR).trans re1
              have HGF := hid (grown_trans (grown_of_below HWR.out r) hS (fun y hy => .inl hy))
              have HZF := hid hS.size
              clear hS
              go_wp2_with fail
              refine bodyPost_ret (v := .tuple #[.agg #[.string (⟨#[71]⟩ ++ itoaB (l.length : Int)), .slice none 0 0], v2]) (by simp [results, Tryd.results13, go_sem, z0, z1]; try rfl) rfl ?_
              have HG1 : Hid (wF.grownBy ((wF.setCell ⟨w.heap.size + 1 + 1, 0, none⟩ (.string (⟨#[71]⟩ ++ itoaB (l.length : Int)))).setCell ⟨w.heap.size + 1 + 1, 1, none⟩ (.slice none 0 0)) (some (w.heap.size + 1 + 1))) := (World.grownBy.trans (grown_setCell wF ⟨w.heap.size + 1 + 1, 0, none⟩ (.string (⟨#[71]⟩ ++ itoaB (l.length : Int)))) (grown_setCell _ ⟨w.heap.size + 1 + 1, 1, none⟩ (.slice none 0 0)))
              rw [HRR.out]
              refine ⟨.slice none 0 0, [], v2, rfl, D.own_nil _ _, by simp, by simp, ?_, ?_, Goes.trans (Goes.refl w _) hzw HGO2.out⟩
              · have HF2 := HRF.out.apart HG1.out (fun y hy e => by
                  injection e with e
                  rcases HGO2.out y hy with q | q
                  · have := (HVL.out y q).2; omega
                  · omega) (fun y hy e => by injection e with e; have := HS.out y hy; have := HBW.out; omega)
                rw [List.length_append, prCss_snoc]
                exact HF2
              · rw [Hr.out]
                exact grown_trans HGF.out HG1.out (fun y hy => by injection hy with hy; right; omega)
      · have HN := hid (Bool.eq_false_iff.2 hvv)
        have HGI : Hid (R = (.node t.name (Tm.gens t.args u.args l).1, (Tm.gens t.args u.args l).2)) := by rw [Hid, ← HR.out]; exact Tm.gen_in l HN.out hnn hll
        clear hnn hll hvv
        have HRN : Hid (∀ k (h : k < t.args.length) l1, l1.length ≤ 999999 → (Tm.gen t.args[k] (u.args[k]'(by have := HLL.out; omega)) l1).1.name.size ≤ maxLen) := fun k h l1 hl1 => by
          have h1 := gen_name t.args[k] (u.args[k]'(by have := HLL.out; omega)) l1 hl1
          have h2 := genNm_bulk t.args[k]
          have h3 := Tm.bulk_mem (List.getElem_mem h)
          have h4 := Tm.args_bulk t
          unfold maxLen
          omega
        obtain ⟨rfl, tn, ta, tc, rfl⟩ := Tm.at_form ht
        obtain ⟨rfl, un, ua, uc, rfl⟩ := Tm.at_form hu
        have hW : Below w.heap.size w (((w.alloc (.cells #[.string t.name, .slice ta t.args.length tc] 28)).alloc (.cells #[.string u.name, .slice ua u.args.length uc] 28)).alloc (.cells #[.string ⟨#[]⟩, .slice none 0 0] 28)) := (((Below.refl _ _).alloc (Nat.le_refl _) _).alloc (by simp) _).alloc (by simp; omega) _
        have bt : Box (((w.alloc (.cells #[.string t.name, .slice ta t.args.length tc] 28)).alloc (.cells #[.string u.name, .slice ua u.args.length uc] 28)).alloc (.cells #[.string ⟨#[]⟩, .slice none 0 0] 28)) (w.heap.size) [.string t.name, .slice ta t.args.length tc] := by
          have := (((Box.new w [.string t.name, .slice ta t.args.length tc] 28).alloc (.cells #[.string u.name, .slice ua u.args.length uc] 28)).alloc (.cells #[.string ⟨#[]⟩, .slice none 0 0] 28))
          simpa only [World.size_alloc] using this
        have bu : Box (((w.alloc (.cells #[.string t.name, .slice ta t.args.length tc] 28)).alloc (.cells #[.string u.name, .slice ua u.args.length uc] 28)).alloc (.cells #[.string ⟨#[]⟩, .slice none 0 0] 28)) (w.heap.size + 1) [.string u.name, .slice ua u.args.length uc] := by
          have := ((Box.new (w.alloc (.cells #[.string t.name, .slice ta t.args.length tc] 28)) [.string u.name, .slice ua u.args.length uc] 28).alloc (.cells #[.string ⟨#[]⟩, .slice none 0 0] 28))
          simpa only [World.size_alloc] using this
        have rb : Box (((w.alloc (.cells #[.string t.name, .slice ta t.args.length tc] 28)).alloc (.cells #[.string u.name, .slice ua u.args.length uc] 28)).alloc (.cells #[.string ⟨#[]⟩, .slice none 0 0] 28)) (w.heap.size + 1 + 1) [.string ⟨#[]⟩, .slice none 0 0] := by
          have := (Box.new ((w.alloc (.cells #[.string t.name, .slice ta t.args.length tc] 28)).alloc (.cells #[.string u.name, .slice ua u.args.length uc] 28)) [.string ⟨#[]⟩, .slice none 0 0] 28)
          simpa only [World.size_alloc] using this
        have rf : ∀ p, (((w.alloc (.cells #[.string t.name, .slice ta t.args.length tc] 28)).alloc (.cells #[.string u.name, .slice ua u.args.length uc] 28)).alloc (.cells #[.string ⟨#[]⟩, .slice none 0 0] 28)).frozen? ⟨w.heap.size + 1 + 1, p, none⟩ = false := fun p => World.frozen?_alloc_at _ _ _ p (by simp)
        replace ht := Tm.at_keep (Keeps.all hW) ht
        replace hu := Tm.at_keep (Keeps.all hW) hu
        have et0 := bt.c0
        have et1 := bt.c1
        have lt := bt.lt
        have eu0 := bu.c0
        have eu1 := bu.c1
        have lu := bu.lt
        have re0 := rb.c0
        have rf0 := rf 0
        have re1 := rb.c1
        have rf1 := rf 1
        have rl := rb.lt
        go_enter Tryd.func13, Tryd.ntmps13
        go_wp2_with fail
        clear et0 et1 lt eu0 eu1 lu re0 rf0 re1 rf1 rl
        have Hw0 : Hid ((((w.alloc (.cells #[.string t.name, .slice ta t.args.length tc] 28)).alloc (.cells #[.string u.name, .slice ua u.args.length uc] 28)).alloc (.cells #[.string ⟨#[]⟩, .slice none 0 0] 28)).heap.size = w.heap.size + 1 + 1 + 1) := by simp [Hid]
        generalize (((w.alloc (.cells #[.string t.name, .slice ta t.args.length tc] 28)).alloc (.cells #[.string u.name, .slice ua u.args.length uc] 28)).alloc (.cells #[.string ⟨#[]⟩, .slice none 0 0] 28)) = w0 at *
        have HWW := hid hW
        have bt0 := bt
        have bu0 := bu
        have rb0 := rb
        have rf0 := rf
        have HT0 := hid ht
        have HU0 := hid hu
        have hA0 : Below w0.heap.size w0 (w0.alloc (.cells #[.string t.name, .slice none 0 0] 28)) := (Below.refl _ _).alloc (Nat.le_refl _) _
        have oB : Box (w0.alloc (.cells #[.string t.name, .slice none 0 0] 28)) w0.heap.size [.string t.name, .slice none 0 0] := Box.new _ _ _
        have oF : ∀ p, (w0.alloc (.cells #[.string t.name, .slice none 0 0] 28)).frozen? ⟨w0.heap.size, p, none⟩ = false := fun p => World.frozen?_alloc_at _ _ _ p (by simp)
        have hzA : (w0.alloc (.cells #[.string t.name, .slice none 0 0] 28)).heap.size = w0.heap.size + 1 := by simp
        have HZA := hid hzA
        clear hzA
        refine (l2Var_any _ tn _).mono ?_
        rintro e w1 ⟨rfl, rfl⟩
        rw [HN.out]
        have et0 := bt.c0
        have et1 := bt.c1
        have lt := bt.lt
        have eu0 := bu.c0
        have eu1 := bu.c1
        have lu := bu.lt
        have re0 := rb.c0
        have rf0 := rf 0
        have re1 := rb.c1
        have rf1 := rf 1
        have rl := rb.lt
        go_wp2_with fail
        clear et0 et1 lt eu0 eu1 lu re0 rf0 re1 rf1 rl
        clear hq hqi hqn hqj
        have HA0 := hid hA0
        have HWL := hid (hW.trans (hA0.mono hW.size))
        clear hW bt bu rb rf ht hu
        have HOF := hid oF
        clear hA0 oF
        generalize (w0.alloc (.cells #[.string t.name, .slice none 0 0] 28)) = wl at *
        have hzl := HZA.out
        have hz0 := Hw0.out
        obtain ⟨O, HOO⟩ : ∃ O, Hid (w0.heap.size = O) := ⟨_, hid rfl⟩
        rw [HOO.out] at hzl oB HOF hz0
        have hzO : w.heap.size + 1 + 1 + 1 ≤ O := by omega
        clear hz0
        rw [HOO.out]
        have oc0 := oB.c0
        have oc1 := oB.c1
        go_loopw [2, 10] (fun x i wr => ∃ (k : Nat) (l1 : List Pr) (F : List Nat) (av : Value), k ≤ t.args.length ∧ i = .int .i64 k ∧ Hid ((Tm.gens (t.args.take k) u.args l).2 = l1) ∧ Hid (Rv S wr B 48 4 x l1.length (prCss l1)) ∧ Hid (Gr wr (O + 1) 28 2 av k (Tm.css (Tm.gens (t.args.take k) u.args l).1) F) ∧ Hid (w0.grownBy wr (Value.slice va l.length vc).ownBlock) ∧ wr.cell? ⟨O, 0, none⟩ = some (.string t.name) ∧ wr.cell? ⟨O, 1, none⟩ = some av ∧ Hid (∀ p, wr.frozen? ⟨O, p, none⟩ = false) ∧ O + 1 ≤ wr.heap.size ∧ Hid (Goes wl (.slice va l.length vc) x) ∧ Hid (∀ y, x.ownBlock = some y → y ∉ F ∧ ¬ av.ownBlock = some y) ∧ l1.length ≤ l.length + Tm.sizes (t.args.take k)) (fun _ i _ => t.args.length - (intOf i).toNat)
        case atStart => exact ⟨0, l, [], .slice none 0 0, Nat.zero_le _, rfl, by rw [List.take_zero, Tm.gens]; exact hid rfl, hid (HV.out.keep HWL.out), by rw [List.take_zero, Tm.gens, Tm.css]; exact hid (Gr.nil _ _ _ _), grown_of_below HA0.out _, oc0, oc1, HOF, by omega, Goes.refl _ _, fun y hy => ⟨by simp, by intro e; cases e⟩, by omega⟩
        case round =>
          obtain ⟨k, l1, F, av, hk, rfl, HMK, HRV, HG, HGR, y0, y1, HYF, hz, HGO, HAP, hl1⟩ := hrel
          have HGR0 := hid (grown_trans (grown_of_below HWW.out (Value.slice va l.length vc).ownBlock) HGR.out (fun y hy => .inl hy))
          have hgz := HGR0.out.size
          have hwO : w.heap.size + 1 + 1 + 1 ≤ O := by omega
          have hkb := genLen_bulk t
          have hw0O := HOO.out
          have n0 : ¬ (Value.slice va l.length vc).ownBlock = some w.heap.size := fun e => by have := (HVL.out _ e).2; omega
          have n1 : ¬ (Value.slice va l.length vc).ownBlock = some (w.heap.size + 1) := fun e => by have := (HVL.out _ e).2; omega
          have n2 : ¬ (Value.slice va l.length vc).ownBlock = some (w.heap.size + 1 + 1) := fun e => by have := (HVL.out _ e).2; omega
          have et0 := ((bcellG HGR.out).1 w.heap.size 0 (by omega) n0).trans bt0.c0
          have et1 := ((bcellG HGR.out).1 w.heap.size 1 (by omega) n0).trans bt0.c1
          have eu0 := ((bcellG HGR.out).1 (w.heap.size + 1) 0 (by omega) n1).trans bu0.c0
          have eu1 := ((bcellG HGR.out).1 (w.heap.size + 1) 1 (by omega) n1).trans bu0.c1
          have er0 := ((bcellG HGR.out).1 (w.heap.size + 1 + 1) 0 (by omega) n2).trans rb0.c0
          have er1 := ((bcellG HGR.out).1 (w.heap.size + 1 + 1) 1 (by omega) n2).trans rb0.c1
          have fr0 := ((bcellG HGR.out).2 (w.heap.size + 1 + 1) 0 (by omega) n2).trans (rf0 0)
          have fr1 := ((bcellG HGR.out).2 (w.heap.size + 1 + 1) 1 (by omega) n2).trans (rf0 1)
          have lt : w.heap.size < wr.heap.size := by omega
          have lu : w.heap.size + 1 < wr.heap.size := by omega
          have lr : w.heap.size + 1 + 1 < wr.heap.size := by omega
          have lO : O < wr.heap.size := hz
          have hkS : Keeps S w0 wr := ⟨HGR.out.size, fun y hy hl => HGR.out.block y hl fun e => by have h1 := (HVL.out y e.symm).1; have h2 := HS.out y hy; omega⟩
          have htr := Tm.at_keep hkS HT0.out
          have hur := Tm.at_keep hkS HU0.out
          have y2 := HYF.out 1
          by_cases hlt : k < t.args.length
          · have hlu : k < u.args.length := by have := HLL.out; omega
            have hne : t.args ≠ [] := by intro e; rw [e] at hlt; simp at hlt
            have hneu : u.args ≠ [] := by intro e; rw [e] at hlu; simp at hlu
            obtain ⟨b, off, rfl, hSb, hbl, hrr⟩ := Tm.sd_get htr.2 hne
            obtain ⟨x0, x1, q0, q1, qx⟩ := hrr k hlt
            obtain ⟨b', off', rfl, hSb', hbl', hrr'⟩ := Tm.sd_get hur.2 hneu
            obtain ⟨z0, z1, r0, r1, rx⟩ := hrr' k hlu
            have hqx := hid qx
            have hrx := hid rx
            obtain ⟨rfl, -, xa, xc, rfl⟩ := Tm.at_form qx
            obtain ⟨rfl, -, ya, yc, rfl⟩ := Tm.at_form rx
            have hT0 : (0 : Int) ≤ (k : Int) := by omega
            obtain ⟨r, Hr⟩ : ∃ r, Hid (u2.ownBlock = r) := ⟨_, hid rfl⟩
            have HL : Hid (∀ y, r = some y → B ≤ y ∧ y < wr.heap.size) := fun y hy => HRV.out.lt y (Hr.out.trans hy)
            have HL2 : Hid (∀ y, r = some y → (Value.slice va l.length vc).ownBlock = some y ∨ wl.heap.size ≤ y) := fun y hy => HGO.out y (Hr.out.trans hy)
            have HL3 : Hid (∀ y, r = some y → y < w.heap.size ∨ O + 1 ≤ y) := fun y hy => by
              rcases HL2.out y hy with q | q
              · exact .inl (HVL.out y q).2
              · right; omega
            have m0 : ¬ r = some w.heap.size := fun e => by have := HL3.out _ e; omega
            have m1 : ¬ r = some (w.heap.size + 1) := fun e => by have := HL3.out _ e; omega
            have mO : ¬ r = some O := fun e => by have := HL3.out _ e; omega
            have mb : ¬ r = some b := fun e => by have h1 := (HL.out _ e).1; have h2 := HS.out _ hSb; omega
            have mb' : ¬ r = some b' := fun e => by have h1 := (HL.out _ e).1; have h2 := HS.out _ hSb'; omega
            have hst := Tm.sizes_take t.args k hlt
            have hsl := Tm.sizes_le t.args (k + 1)
            have hts2 : t.size = 1 + Tm.sizes t.args := by cases t; rw [Tm.size]; rfl
            have hbm := Tm.bulk_mem (List.getElem_mem hlt)
            have hba := Tm.args_bulk t
            have HIH : Hid (∀ wx, Below wr.heap.size wr wx → Calls Tryd.prog 13 #[.agg #[.string t.args[k].name, .slice xa t.args[k].args.length xc], .agg #[.string u.args[k].name, .slice ya u.args[k].args.length yc], u2] wx (GenOut (Tm.gen t.args[k] u.args[k] l1) u2 B S wx)) := fun wx hbx =>
              ih t.args[k] (List.getElem_mem hlt) u.args[k] l1 u2 B S _ _ _ _ wx (HRV.out.keep hbx) (by have := hbx.size; omega) HS.out (Tm.at_keep (Keeps.all hbx) hqx.out) (Tm.at_keep (Keeps.all hbx) hrx.out) (by omega) (by omega)
            have HST := hid (Tm.gens_take t.args u.args l k hlt hlu)
            rw [HMK.out] at HST
            have HNM := hid (HRN.out k hlt l1 (by omega))
            have hgs := Tm.gen_sizes t.args[k] u.args[k] l1
            obtain ⟨R1, HR1⟩ : ∃ R1, Hid (Tm.gen t.args[k] u.args[k] l1 = R1) := ⟨_, hid rfl⟩
            rw [HR1.out] at HST HNM HIH hgs
            have HSZ : Hid (R1.2.length ≤ l.length + Tm.sizes (t.args.take (k + 1))) := by rw [Hid]; omega
            clear hrr hrr' qx rx hst hsl htr hur hkS hgs hbm hba
            go_wp2_with fail
            refine region_late (l := [_, _, _, _, _, _, _, _, _, _, _, _, _, _, _, _, _, _]) (tl := []) (S := fun w1 => (wr).grownBy w1 (r)) (n := 18) rfl rfl (by kernel_rfl) (by kernel_rfl) (grown_of_below ((Below.refl _ _).drew) _) (fun hQL hS => ?_)
            refine late_take (i := 0) (d := some 81) (v := .pointer (some ⟨w.heap.size, 1, none⟩)) rfl rfl (by kernel_rfl) (by kernel_rfl) (by kernel_rfl) hQL (by rfl) (fun w1 _ => (by go_simp)) hS ?_
            try simp only [Act.put, List.setIfInBounds_toArray, List.set_cons_zero, List.set_cons_succ]
            refine late_take (i := 1) (d := some 82) (v := .slice (some ⟨b, off, none⟩) t.args.length tc) rfl rfl (by kernel_rfl) (by kernel_rfl) (by kernel_rfl) hQL (by rfl) (fun w1 hS1 => (by obtain ⟨hc, hf⟩ := bcellG hS1; go_simp)) hS ?_
            try simp only [Act.put, List.setIfInBounds_toArray, List.set_cons_zero, List.set_cons_succ]
            refine late_take (i := 2) (d := some 83) (v := .int .i64 k) rfl rfl (by kernel_rfl) (by kernel_rfl) (by kernel_rfl) hQL (by rfl) (fun w1 _ => (by go_simp)) hS ?_
            try simp only [Act.put, List.setIfInBounds_toArray, List.set_cons_zero, List.set_cons_succ]
            refine late_take (i := 3) (d := some 84) (v := .pointer (some ⟨b, off + k * 2, none⟩)) rfl rfl (by kernel_rfl) (by kernel_rfl) (by kernel_rfl) hQL (by rfl) (fun w1 _ => (by go_simp)) hS ?_
            try simp only [Act.put, List.setIfInBounds_toArray, List.set_cons_zero, List.set_cons_succ]
            refine late_take (i := 4) (d := some 85) (v := .agg #[.string t.args[k].name, .slice xa t.args[k].args.length xc]) rfl rfl (by kernel_rfl) (by kernel_rfl) (by kernel_rfl) hQL (by rfl) (fun w1 hS1 => (by obtain ⟨hc, hf⟩ := bcellG hS1; go_simp)) hS ?_
            try simp only [Act.put, List.setIfInBounds_toArray, List.set_cons_zero, List.set_cons_succ]
            refine late_take (i := 5) (d := some 86) (v := .pointer (some ⟨(w.heap.size + 1), 1, none⟩)) rfl rfl (by kernel_rfl) (by kernel_rfl) (by kernel_rfl) hQL (by rfl) (fun w1 _ => (by go_simp)) hS ?_
            try simp only [Act.put, List.setIfInBounds_toArray, List.set_cons_zero, List.set_cons_succ]
            refine late_take (i := 6) (d := some 87) (v := .slice (some ⟨b', off', none⟩) u.args.length uc) rfl rfl (by kernel_rfl) (by kernel_rfl) (by kernel_rfl) hQL (by rfl) (fun w1 hS1 => (by obtain ⟨hc, hf⟩ := bcellG hS1; go_simp)) hS ?_
            try simp only [Act.put, List.setIfInBounds_toArray, List.set_cons_zero, List.set_cons_succ]
            refine late_take (i := 7) (d := some 88) (v := .int .i64 k) rfl rfl (by kernel_rfl) (by kernel_rfl) (by kernel_rfl) hQL (by rfl) (fun w1 _ => (by go_simp)) hS ?_
            try simp only [Act.put, List.setIfInBounds_toArray, List.set_cons_zero, List.set_cons_succ]
            refine late_take (i := 8) (d := some 89) (v := .pointer (some ⟨b', off' + k * 2, none⟩)) rfl rfl (by kernel_rfl) (by kernel_rfl) (by kernel_rfl) hQL (by rfl) (fun w1 _ => (by go_simp)) hS ?_
            try simp only [Act.put, List.setIfInBounds_toArray, List.set_cons_zero, List.set_cons_succ]
            refine late_take (i := 9) (d := some 90) (v := .agg #[.string u.args[k].name, .slice ya u.args[k].args.length yc]) rfl rfl (by kernel_rfl) (by kernel_rfl) (by kernel_rfl) hQL (by rfl) (fun w1 hS1 => (by obtain ⟨hc, hf⟩ := bcellG hS1; go_simp)) hS ?_
            try simp only [Act.put, List.setIfInBounds_toArray, List.set_cons_zero, List.set_cons_succ]
            refine late_take (i := 10) (d := some 91) (v := u2) rfl rfl (by kernel_rfl) (by kernel_rfl) (by kernel_rfl) hQL (by rfl) (fun w1 _ => (by go_simp)) hS ?_
            try simp only [Act.put, List.setIfInBounds_toArray, List.set_cons_zero, List.set_cons_succ]
            refine wpAnyH_ready (rs := [11, 15]) (by kernel_rfl) (by simp) ?_
            refine AllReadyH.cons rfl (fun K hK => ?_) (AllReadyH.cons rfl (fun K hK => ?_) AllReadyH.nil)
            · skip
              refine step_does rfl ?_
              unfold Does
              go_simp
              go_at_call 13
              refine (HIH.out _ ((Below.refl _ _).drew)).mono ?_
              rintro e w1 ⟨o1, F1, v1, rfl, ho1, hF1, hn1, hrv1, hg1, hgo1⟩
              obtain ⟨a1, c1, rfl⟩ := Tm.sd_own_form ho1
              rw [Hr.out] at hg1
              have HO1 := hid ho1
              have HF1 : Hid (∀ y ∈ F1, wr.heap.size ≤ y) := hF1
              have HN1 := hid hn1
              have HRV1 := hid hrv1
              have HGO1 : Hid (Goes wr u2 v1) := hgo1
              have HG01 : Hid (wr.grownBy w1 r) := World.grownBy.trans (grown_of_below ((Below.refl _ _).drew) r) hg1
              clear ho1 hF1 hn1 hrv1 hgo1
              refine ⟨_, rfl, ?_⟩
              refine hK.out _ _ (World.grownBy.trans hS hg1) (fun hS => ?_)
              try show wpAnyH _ _ _ _ _ _ _ (Act.put _ (some 92) _) _
              try simp only [Act.put, List.setIfInBounds_toArray, List.set_cons_zero, List.set_cons_succ]
              refine late_take (i := 12) (d := some 80) (v := .tuple #[.agg #[.string R1.1.name, .slice a1 R1.1.args.length c1], v1]) rfl rfl (by kernel_rfl) (by kernel_rfl) (by kernel_rfl) hQL (by rfl) (fun w1 _ => (by go_simp)) hS ?_
              try simp only [Act.put, List.setIfInBounds_toArray, List.set_cons_zero, List.set_cons_succ]
              refine late_take (i := 13) (d := some 93) (v := .agg #[.string R1.1.name, .slice a1 R1.1.args.length c1]) rfl rfl (by kernel_rfl) (by kernel_rfl) (by kernel_rfl) hQL (by rfl) (fun w1 _ => (by go_simp)) hS ?_
              try simp only [Act.put, List.setIfInBounds_toArray, List.set_cons_zero, List.set_cons_succ]
              refine late_take (i := 14) (d := some 94) (v := v1) rfl rfl (by kernel_rfl) (by kernel_rfl) (by kernel_rfl) hQL (by rfl) (fun w1 _ => (by go_simp)) hS ?_
              try simp only [Act.put, List.setIfInBounds_toArray, List.set_cons_zero, List.set_cons_succ]
              refine wpAnyH_ready (rs := [15]) (by kernel_rfl) (by simp) ?_
              refine AllReadyH.cons rfl (fun K hK => ?_) AllReadyH.nil
              go_simp
              refine hK.out _ _ (World.grownBy.trans hS (World.grownBy_alloc _ _ _)) (fun hS => ?_)
              try show wpAnyH _ _ _ _ _ _ _ (Act.put _ (some 11) _) _
              try simp only [Act.put, List.setIfInBounds_toArray, List.set_cons_zero, List.set_cons_succ]
              refine wpAnyH_ready (rs := [16]) (by kernel_rfl) (by simp) ?_
              refine AllReadyH.cons rfl (fun K hK => ?_) AllReadyH.nil
              go_simp
              refine hK.out _ _ (World.grownBy.trans HG01.out (World.grownBy_alloc _ _ _)) (fun hS => ?_)
              try show wpAnyH _ _ _ _ _ _ _ (Act.put _ (none) _) _
              try simp only [Act.put, List.setIfInBounds_toArray, List.set_cons_zero, List.set_cons_succ]
              refine late_take (i := 17) (d := some 12) (v := v1) rfl rfl (by kernel_rfl) (by kernel_rfl) (by kernel_rfl) hQL (by rfl) (fun w1 _ => (by go_simp)) hS ?_
              try simp only [Act.put, List.setIfInBounds_toArray, List.set_cons_zero, List.set_cons_succ]
              refine wpAnyH_done (by kernel_rfl) ?_ _
              show wpTail _ _ _ _ _
              refine wpTail_nil ?_
              have bX : Box (w1.alloc (.cells #[.string R1.1.name, .slice a1 R1.1.args.length c1] 28)) w1.heap.size [.string R1.1.name, .slice a1 R1.1.args.length c1] := Box.new _ _ _
              have hbX : Below w1.heap.size w1 (w1.alloc (.cells #[.string R1.1.name, .slice a1 R1.1.args.length c1] 28)) := (Below.refl _ _).alloc (Nat.le_refl _) _
              have HGF : Hid (wr.grownBy (w1.alloc (.cells #[.string R1.1.name, .slice a1 R1.1.args.length c1] 28)) r) := World.grownBy.trans (World.grownBy.trans (grown_of_below ((Below.refl _ _).drew) r) hg1) (World.grownBy_alloc _ _ _)
              have HO2 := hid (D.own_keep _ _ _ (Keeps.all hbX) HO1.out)
              have HRV2 := hid (HRV1.out.keep hbX)
              clear hS hg1 hbX HO1 HRV1
              generalize (w1.alloc (.cells #[.string R1.1.name, .slice a1 R1.1.args.length c1] 28)) = wF at *
              have hzF := HGF.out.size
              have v0 := ((bcellG HGF.out).1 O 0 lO mO).trans y0
              have v01 := ((bcellG HGF.out).1 O 1 lO mO).trans y1
              have HYF2 : Hid (∀ p, wF.frozen? ⟨O, p, none⟩ = false) := fun p => ((bcellG HGF.out).2 O p lO mO).trans (HYF.out p)
              have v02 := HYF2.out 1
              have e0 := bX.c0
              have e1 := bX.c1
              have leX := bX.lt
              have lOF : O < wF.heap.size := by omega
              have HG2 := hid (HG.out.apart HGF.out (fun y hy e => (HAP.out y (Hr.out.trans e)).2 hy) (fun y hy e => (HAP.out y (Hr.out.trans e)).1 hy))
              obtain ⟨s, Hs⟩ : ∃ s, Hid (av.ownBlock = s) := ⟨_, hid rfl⟩
              have HLs : Hid (∀ y, s = some y → O + 1 ≤ y ∧ y < wr.heap.size) := fun y hy => HG.out.lt y (Hs.out.trans hy)
              have nsO : ¬ s = some O := fun e => by have := HLs.out _ e; omega
              have HSD : Hid (∀ y, v1.ownBlock = some y → ¬ s = some y) := fun y hy e => by
                rcases HGO1.out y hy with q | q
                · exact (HAP.out y q).2 (Hs.out.trans e)
                · have := HLs.out y e; omega
              have HLV : Hid (∀ y, v1.ownBlock = some y → y < wF.heap.size) := fun y hy => (HRV2.out.lt y hy).2
              have HVO : Hid (∀ y, v1.ownBlock = some y → y ≠ O) := fun y hy e => by
                subst e
                rcases HGO1.out y hy with q | q
                · exact mO (Hr.out.symm.trans q)
                · omega
              clear y0 y1 y2
              go_wp2_with (refine wpList_append_gr (news := [.string R1.1.name, .slice a1 R1.1.args.length c1]) (G := F1) Tryd.underlying26 infoTerm rfl (by decide) (by decide) rfl _ _ (by rfl) (by rfl) (by rfl) (HG2.out.keep ((Below.refl _ _).alloc (Nat.le_refl _) _)) rfl (by intro j u hj; rw [box1]; simpa using hj) (by simp [Value.oneCell']) ((Tm.own_item HNM.out HO2.out).keep (Keeps.all ((Below.refl _ _).alloc (Nat.le_refl _) _))) (fun y hy => by have := HF1.out y hy; omega) (fun y hy hy' => by have := HF1.out y hy'; have := HG.out.ltF y hy; omega) (fun y hy hy' => by have := HF1.out y hy'; have := HG.out.lt y hy; omega) (by omega) (by rw [World.size_alloc]; omega) ?_; intro g capg wg hg hgr hgo hglt; rw [Hs.out] at hgr; have zg := hgr.size; rw [World.size_alloc] at zg; have gO0 := ((bcellG hgr).1 O 0 (by rw [World.size_alloc]; omega) nsO).trans (cell_alloc v0 _); have gO1 := ((bcellG hgr).1 O 1 (by rw [World.size_alloc]; omega) nsO).trans (cell_alloc v01 _); have HGFp : Hid (∀ p, wg.frozen? ⟨O, p, none⟩ = false) := (fun p => ((bcellG hgr).2 O p (by rw [World.size_alloc]; omega) nsO).trans ((World.frozen?_alloc_past _ _ p lOF).trans (HYF2.out p))); have gf1 := HGFp.out 1; have lOg : O < wg.heap.size := (by omega))
              have HGW : Hid (wF.grownBy wg s) := World.grownBy.trans (World.grownBy_alloc _ _ _) hgr
              have HGG := hid hg
              have HGH : Hid (av.ownBlock = some g ∨ wF.heap.size ≤ g) := by
                rcases hgo with q | q
                · exact .inl q
                · right; rw [World.size_alloc] at q; omega
              clear hg hgr hgo
              go_roundw
              case rel =>
                refine ⟨k + 1, R1.2, F ++ F1, .slice (some ⟨g, 0, none⟩) (k + 1) capg, by omega, by go_num, hid ?_, hid ?_, hid ?_, hid ?_, ?_, ?_, hid ?_, ?_, hid ?_, hid ?_, HSZ.out⟩
                · rw [HST.out]
                · exact (HRV2.out.apart HGW.out (fun y hy e => HSD.out y hy e) (fun y hy e => by have h1 := HLs.out y e; have h2 := HS.out y hy; omega)).apart (grown_setCell wg ⟨O, 1, none⟩ _) (fun y hy e => by injection e with e; exact HVO.out y hy e.symm) (fun y hy e => by injection e with e; have h2 := HS.out y hy; have e2 : O = y := e; omega)
                · rw [HST.out]
                  show Gr _ _ _ _ _ _ (Tm.css (_ ++ [R1.1])) _
                  rw [genCss_snoc]
                  exact HGG.out.setCell (by show O < O + 1; omega) _
                · refine grown_trans (grown_trans (grown_trans HGR.out HGF.out (fun y hy => ?_)) HGW.out (fun y hy => ?_)) (grown_setCell wg ⟨O, 1, none⟩ _) (fun y hy => ?_)
                  · rcases HL2.out y hy with q | q
                    · exact .inl q
                    · right; omega
                  · right; have := HLs.out y hy; omega
                  · right; injection hy with hy; have e2 : O = y := hy; omega
                · rw [World.cell?_setCell_other _ _ _ _ (by intro e; injection e with _ e; omega)]; exact gO0
                · exact World.cell?_setCell_same _ _ _ gO1
                · intro p; rw [World.frozen?_setCell]; exact HGFp.out p
                · rw [World.size_setCell]; omega
                · exact Goes.trans HGO.out (by omega) HGO1.out
                · intro y hy
                  refine ⟨fun q => ?_, fun e => ?_⟩
                  · rcases List.mem_append.1 q with q | q
                    · rcases HGO1.out y hy with p | p
                      · exact (HAP.out y p).1 q
                      · have := HG.out.ltF y q; omega
                    · exact HN1.out y hy q
                  · have e2 : g = y := Option.some.inj e
                    subst e2
                    rcases HGH.out with q | q
                    · exact HSD.out _ hy (Hs.out.symm.trans q)
                    · have := HLV.out _ hy; omega
              case measure => simp [intOf]; omega
            · skip
              go_simp
              refine hK.out _ _ (World.grownBy.trans hS (World.grownBy_alloc _ _ _)) (fun hS => ?_)
              try show wpAnyH _ _ _ _ _ _ _ (Act.put _ (some 11) _) _
              try simp only [Act.put, List.setIfInBounds_toArray, List.set_cons_zero, List.set_cons_succ]
              refine wpAnyH_ready (rs := [11]) (by kernel_rfl) (by simp) ?_
              refine AllReadyH.cons rfl (fun K hK => ?_) AllReadyH.nil
              refine step_does rfl ?_
              unfold Does
              go_simp
              go_at_call 13
              have hbA : Below wr.heap.size wr (wr.drew.alloc (.cells #[.string ByteArray.empty, .slice none 0 0] 28)) := ((Below.refl wr.heap.size wr).drew).alloc (Nat.le_refl _) _
              refine (HIH.out _ hbA).mono ?_
              rintro e w1 ⟨o1, F1, v1, rfl, ho1, hF1, hn1, hrv1, hg1, hgo1⟩
              obtain ⟨a1, c1, rfl⟩ := Tm.sd_own_form ho1
              rw [Hr.out] at hg1
              have HO1 := hid ho1
              have HF1 : Hid (∀ y ∈ F1, wr.heap.size + 1 ≤ y) := fun y hy => by have := hF1 y hy; rw [World.size_alloc] at this; exact this
              have HN1 := hid hn1
              have HRV1 := hid hrv1
              have HGO1 : Hid (Goes wr u2 v1) := Goes.trans (Goes.refl wr u2) hbA.size hgo1
              have HGOX : Hid (∀ y, v1.ownBlock = some y → u2.ownBlock = some y ∨ wr.heap.size + 1 ≤ y) := fun y hy => by
                rcases hgo1 y hy with q | q
                · exact .inl q
                · right; rw [World.size_alloc] at q; exact q
              have nX : ¬ r = some wr.heap.size := fun e => by have := HL.out _ e; omega
              have X0 : w1.cell? ⟨wr.heap.size, 0, none⟩ = some (.string ByteArray.empty) := ((bcellG hg1).1 wr.heap.size 0 (by simp) nX).trans (box1 wr.drew #[.string ByteArray.empty, .slice none 0 0] 28 0)
              have X1 : w1.cell? ⟨wr.heap.size, 1, none⟩ = some (.slice none 0 0) := ((bcellG hg1).1 wr.heap.size 1 (by simp) nX).trans (box1 wr.drew #[.string ByteArray.empty, .slice none 0 0] 28 1)
              have Y0 : w1.frozen? ⟨wr.heap.size, 0, none⟩ = false := ((bcellG hg1).2 wr.heap.size 0 (by simp) nX).trans (World.frozen?_alloc_at _ _ _ 0 (by simp))
              have Y1 : w1.frozen? ⟨wr.heap.size, 1, none⟩ = false := ((bcellG hg1).2 wr.heap.size 1 (by simp) nX).trans (World.frozen?_alloc_at _ _ _ 1 (by simp))
              have lX : wr.heap.size < w1.heap.size := by have := hg1.size; rw [World.size_alloc] at this; exact this
              clear ho1 hF1 hn1 hrv1 hgo1
              refine ⟨_, rfl, ?_⟩
              refine hK.out _ _ (World.grownBy.trans hS hg1) (fun hS => ?_)
              try show wpAnyH _ _ _ _ _ _ _ (Act.put _ (some 92) _) _
              try simp only [Act.put, List.setIfInBounds_toArray, List.set_cons_zero, List.set_cons_succ]
              refine late_take (i := 12) (d := some 80) (v := .tuple #[.agg #[.string R1.1.name, .slice a1 R1.1.args.length c1], v1]) rfl rfl (by kernel_rfl) (by kernel_rfl) (by kernel_rfl) hQL (by rfl) (fun w1 _ => (by go_simp)) hS ?_
              try simp only [Act.put, List.setIfInBounds_toArray, List.set_cons_zero, List.set_cons_succ]
              refine late_take (i := 13) (d := some 93) (v := .agg #[.string R1.1.name, .slice a1 R1.1.args.length c1]) rfl rfl (by kernel_rfl) (by kernel_rfl) (by kernel_rfl) hQL (by rfl) (fun w1 _ => (by go_simp)) hS ?_
              try simp only [Act.put, List.setIfInBounds_toArray, List.set_cons_zero, List.set_cons_succ]
              refine late_take (i := 14) (d := some 94) (v := v1) rfl rfl (by kernel_rfl) (by kernel_rfl) (by kernel_rfl) hQL (by rfl) (fun w1 _ => (by go_simp)) hS ?_
              try simp only [Act.put, List.setIfInBounds_toArray, List.set_cons_zero, List.set_cons_succ]
              refine wpAnyH_ready (rs := [16]) (by kernel_rfl) (by simp) ?_
              refine AllReadyH.cons rfl (fun K hK => ?_) AllReadyH.nil
              go_simp
              refine hK.out _ _ (grown_trans hS (World.grownBy.trans (grown_setCell w1 ⟨wr.heap.size, 0, none⟩ _) (grown_setCell _ ⟨wr.heap.size, 1, none⟩ _)) (fun y hy => by injection hy with hy; right; have e2 : wr.heap.size = y := hy; omega)) (fun hS => ?_)
              try show wpAnyH _ _ _ _ _ _ _ (Act.put _ (none) _) _
              try simp only [Act.put, List.setIfInBounds_toArray, List.set_cons_zero, List.set_cons_succ]
              refine late_take (i := 17) (d := some 12) (v := v1) rfl rfl (by kernel_rfl) (by kernel_rfl) (by kernel_rfl) hQL (by rfl) (fun w1 _ => (by go_simp)) hS ?_
              try simp only [Act.put, List.setIfInBounds_toArray, List.set_cons_zero, List.set_cons_succ]
              refine wpAnyH_done (by kernel_rfl) ?_ _
              show wpTail _ _ _ _ _
              refine wpTail_nil ?_
              have zx : ZBox w1 wr.heap.size := ⟨lX, X0, X1, Y0, Y1⟩
              have HGX : Hid (w1.grownBy ((w1.setCell ⟨wr.heap.size, 0, none⟩ (.string R1.1.name)).setCell ⟨wr.heap.size, 1, none⟩ (.slice a1 R1.1.args.length c1)) (some wr.heap.size)) := World.grownBy.trans (grown_setCell w1 ⟨wr.heap.size, 0, none⟩ _) (grown_setCell _ ⟨wr.heap.size, 1, none⟩ _)
              have bX := (zx.fill (.string R1.1.name) (.slice a1 R1.1.args.length c1)).2
              have HGF : Hid (wr.grownBy ((w1.setCell ⟨wr.heap.size, 0, none⟩ (.string R1.1.name)).setCell ⟨wr.heap.size, 1, none⟩ (.slice a1 R1.1.args.length c1)) r) := grown_trans (World.grownBy.trans (grown_of_below hbA r) hg1) HGX.out (fun y hy => by injection hy with hy; right; omega)
              have nX1 : wr.heap.size ∉ F1 := fun q => by have := HF1.out _ q; omega
              have HO2 := hid (D.own_keep _ _ _ (((Keeps.refl (· ∈ F1) w1).setCell (p := ⟨wr.heap.size, 0, none⟩) (fun q _ => nX1 q) (.string R1.1.name)).setCell (p := ⟨wr.heap.size, 1, none⟩) (fun q _ => nX1 q) (.slice a1 R1.1.args.length c1)) HO1.out)
              have HRV2 := hid (HRV1.out.apart HGX.out (fun y hy e => by
                injection e with e
                rcases HGOX.out y hy with q | q
                · have := (HL.out y (Hr.out.symm.trans q)).2; omega
                · omega) (fun y hy e => by injection e with e; have := HS.out y hy; omega))
              replace HF1 : Hid (∀ y ∈ F1, wr.heap.size ≤ y) := fun y hy => by have := HF1.out y hy; omega
              clear hS hg1 hbA HO1 HRV1 HGX zx HGOX X0 X1 Y0 Y1 lX nX
              generalize ((w1.setCell ⟨wr.heap.size, 0, none⟩ (.string R1.1.name)).setCell ⟨wr.heap.size, 1, none⟩ (.slice a1 R1.1.args.length c1)) = wF at *
              have hzF := HGF.out.size
              have v0 := ((bcellG HGF.out).1 O 0 lO mO).trans y0
              have v01 := ((bcellG HGF.out).1 O 1 lO mO).trans y1
              have HYF2 : Hid (∀ p, wF.frozen? ⟨O, p, none⟩ = false) := fun p => ((bcellG HGF.out).2 O p lO mO).trans (HYF.out p)
              have v02 := HYF2.out 1
              have e0 := bX.c0
              have e1 := bX.c1
              have leX := bX.lt
              have lOF : O < wF.heap.size := by omega
              have HG2 := hid (HG.out.apart HGF.out (fun y hy e => (HAP.out y (Hr.out.trans e)).2 hy) (fun y hy e => (HAP.out y (Hr.out.trans e)).1 hy))
              obtain ⟨s, Hs⟩ : ∃ s, Hid (av.ownBlock = s) := ⟨_, hid rfl⟩
              have HLs : Hid (∀ y, s = some y → O + 1 ≤ y ∧ y < wr.heap.size) := fun y hy => HG.out.lt y (Hs.out.trans hy)
              have nsO : ¬ s = some O := fun e => by have := HLs.out _ e; omega
              have HSD : Hid (∀ y, v1.ownBlock = some y → ¬ s = some y) := fun y hy e => by
                rcases HGO1.out y hy with q | q
                · exact (HAP.out y q).2 (Hs.out.trans e)
                · have := HLs.out y e; omega
              have HLV : Hid (∀ y, v1.ownBlock = some y → y < wF.heap.size) := fun y hy => (HRV2.out.lt y hy).2
              have HVO : Hid (∀ y, v1.ownBlock = some y → y ≠ O) := fun y hy e => by
                subst e
                rcases HGO1.out y hy with q | q
                · exact mO (Hr.out.symm.trans q)
                · omega
              clear y0 y1 y2
              go_wp2_with (refine wpList_append_gr (news := [.string R1.1.name, .slice a1 R1.1.args.length c1]) (G := F1) Tryd.underlying26 infoTerm rfl (by decide) (by decide) rfl _ _ (by rfl) (by rfl) (by rfl) (HG2.out.keep ((Below.refl _ _).alloc (Nat.le_refl _) _)) rfl (by intro j u hj; rw [box1]; simpa using hj) (by simp [Value.oneCell']) ((Tm.own_item HNM.out HO2.out).keep (Keeps.all ((Below.refl _ _).alloc (Nat.le_refl _) _))) (fun y hy => by have := HF1.out y hy; omega) (fun y hy hy' => by have := HF1.out y hy'; have := HG.out.ltF y hy; omega) (fun y hy hy' => by have := HF1.out y hy'; have := HG.out.lt y hy; omega) (by omega) (by rw [World.size_alloc]; omega) ?_; intro g capg wg hg hgr hgo hglt; rw [Hs.out] at hgr; have zg := hgr.size; rw [World.size_alloc] at zg; have gO0 := ((bcellG hgr).1 O 0 (by rw [World.size_alloc]; omega) nsO).trans (cell_alloc v0 _); have gO1 := ((bcellG hgr).1 O 1 (by rw [World.size_alloc]; omega) nsO).trans (cell_alloc v01 _); have HGFp : Hid (∀ p, wg.frozen? ⟨O, p, none⟩ = false) := (fun p => ((bcellG hgr).2 O p (by rw [World.size_alloc]; omega) nsO).trans ((World.frozen?_alloc_past _ _ p lOF).trans (HYF2.out p))); have gf1 := HGFp.out 1; have lOg : O < wg.heap.size := (by omega))
              have HGW : Hid (wF.grownBy wg s) := World.grownBy.trans (World.grownBy_alloc _ _ _) hgr
              have HGG := hid hg
              have HGH : Hid (av.ownBlock = some g ∨ wF.heap.size ≤ g) := by
                rcases hgo with q | q
                · exact .inl q
                · right; rw [World.size_alloc] at q; omega
              clear hg hgr hgo
              go_roundw
              case rel =>
                refine ⟨k + 1, R1.2, F ++ F1, .slice (some ⟨g, 0, none⟩) (k + 1) capg, by omega, by go_num, hid ?_, hid ?_, hid ?_, hid ?_, ?_, ?_, hid ?_, ?_, hid ?_, hid ?_, HSZ.out⟩
                · rw [HST.out]
                · exact (HRV2.out.apart HGW.out (fun y hy e => HSD.out y hy e) (fun y hy e => by have h1 := HLs.out y e; have h2 := HS.out y hy; omega)).apart (grown_setCell wg ⟨O, 1, none⟩ _) (fun y hy e => by injection e with e; exact HVO.out y hy e.symm) (fun y hy e => by injection e with e; have h2 := HS.out y hy; have e2 : O = y := e; omega)
                · rw [HST.out]
                  show Gr _ _ _ _ _ _ (Tm.css (_ ++ [R1.1])) _
                  rw [genCss_snoc]
                  exact HGG.out.setCell (by show O < O + 1; omega) _
                · refine grown_trans (grown_trans (grown_trans HGR.out HGF.out (fun y hy => ?_)) HGW.out (fun y hy => ?_)) (grown_setCell wg ⟨O, 1, none⟩ _) (fun y hy => ?_)
                  · rcases HL2.out y hy with q | q
                    · exact .inl q
                    · right; omega
                  · right; have := HLs.out y hy; omega
                  · right; injection hy with hy; have e2 : O = y := hy; omega
                · rw [World.cell?_setCell_other _ _ _ _ (by intro e; injection e with _ e; omega)]; exact gO0
                · exact World.cell?_setCell_same _ _ _ gO1
                · intro p; rw [World.frozen?_setCell]; exact HGFp.out p
                · rw [World.size_setCell]; omega
                · exact Goes.trans HGO.out (by omega) HGO1.out
                · intro y hy
                  refine ⟨fun q => ?_, fun e => ?_⟩
                  · rcases List.mem_append.1 q with q | q
                    · rcases HGO1.out y hy with p | p
                      · exact (HAP.out y p).1 q
                      · have := HG.out.ltF y q; omega
                    · exact HN1.out y hy q
                  · have e2 : g = y := Option.some.inj e
                    subst e2
                    rcases HGH.out with q | q
                    · exact HSD.out _ hy (Hs.out.symm.trans q)
                    · have := HLV.out _ hy; omega
              case measure => simp [intOf]; omega
          · obtain rfl : k = t.args.length := by omega
            have HG' := HG.out
            have HMK' := HMK.out
            rw [List.take_length] at HG' HMK'
            obtain ⟨Gf, hO, hGf⟩ := Gr.own2 HG' (by decide)
            have hgl := Tm.gens_length t.args u.args l HLL.out
            obtain ⟨G1, HG1⟩ : ∃ G1, Hid ((Tm.gens t.args u.args l).1 = G1) := ⟨_, hid rfl⟩
            have HRR : Hid (R = (.node t.name G1, l1)) := by rw [Hid, HGI.out, HG1.out, HMK']
            rw [HG1.out] at hO hgl
            rw [← hgl] at hO
            have hO2 : D.own wr av (Tm.sd G1) Gf := hO
            have HLG : Hid (∀ y ∈ Gf, O + 1 ≤ y) := fun y hy => by
              rcases hGf y hy with q | q
              · exact (HG.out.lt y q).1
              · exact HG.out.leF y q
            have HAG : Hid (∀ y, u2.ownBlock = some y → y ∉ Gf) := fun y hy q => by
              rcases hGf y q with q | q
              · exact (HAP.out y hy).2 q
              · exact (HAP.out y hy).1 q
            clear hO hGf HG' HMK' HG HAP
            obtain ⟨a2, c2, rfl⟩ := Tm.sd_own_form hO2
            have HO2 := hid hO2
            have HGN : Hid (wr.grownBy ((wr.setCell ⟨w.heap.size + 1 + 1, 0, none⟩ (.string t.name)).setCell ⟨w.heap.size + 1 + 1, 1, none⟩ (.slice a2 G1.length c2)) (some (w.heap.size + 1 + 1))) := World.grownBy.trans (grown_setCell wr ⟨w.heap.size + 1 + 1, 0, none⟩ _) (grown_setCell _ ⟨w.heap.size + 1 + 1, 1, none⟩ _)
            have hltn : ¬ (t.args.length : Int) < (t.args.length : Int) := by omega
            clear hO2 hgl
            go_wp2_with fail
            refine bodyPost_ret (v := .tuple #[.agg #[.string t.name, .slice a2 G1.length c2], u2]) (by simp [results, Tryd.results13, go_sem, er0, er1]; try rfl) rfl ?_
            rw [HRR.out]
            have nG : w.heap.size + 1 + 1 ∉ Gf := fun q => by have := HLG.out _ q; omega
            refine ⟨_, Gf, u2, rfl, D.own_keep _ _ _ (((Keeps.refl (· ∈ Gf) wr).setCell (p := ⟨w.heap.size + 1 + 1, 0, none⟩) (fun q _ => nG q) _).setCell (p := ⟨w.heap.size + 1 + 1, 1, none⟩) (fun q _ => nG q) _) HO2.out, fun y hy => by have := HLG.out y hy; omega, HAG.out, ?_, ?_, Goes.trans (Goes.refl w _) HWL.out.size HGO.out⟩
            · exact HRV.out.apart HGN.out (fun y hy e => by
                injection e with e
                rcases HGO.out y hy with q | q
                · have := (HVL.out y q).2; omega
                · omega) (fun y hy e => by injection e with e; have := HS.out y hy; omega)
            · exact grown_trans HGR0.out HGN.out (fun y hy => by injection hy with hy; right; omega)
    · have hqi : ((t.args.length : Int) != (u.args.length : Int)) = true := by simp; omega
      have hqj : ((t.args.length : Int) == (u.args.length : Int)) = false := by simp; omega
      have HGO : Hid (R = (genVar l t u, addP l t u)) := by rw [Hid, ← HR.out]; exact Tm.gen_out l (fun q => hll q.2.2)
      clear hnn hll ih
      obtain ⟨rfl, tn, ta, tc, rfl⟩ := Tm.at_form ht
      obtain ⟨rfl, un, ua, uc, rfl⟩ := Tm.at_form hu
      have hW : Below w.heap.size w (((w.alloc (.cells #[.string t.name, .slice ta t.args.length tc] 28)).alloc (.cells #[.string u.name, .slice ua u.args.length uc] 28)).alloc (.cells #[.string ⟨#[]⟩, .slice none 0 0] 28)) := (((Below.refl _ _).alloc (Nat.le_refl _) _).alloc (by simp) _).alloc (by simp; omega) _
      have bt : Box (((w.alloc (.cells #[.string t.name, .slice ta t.args.length tc] 28)).alloc (.cells #[.string u.name, .slice ua u.args.length uc] 28)).alloc (.cells #[.string ⟨#[]⟩, .slice none 0 0] 28)) (w.heap.size) [.string t.name, .slice ta t.args.length tc] := by
        have := (((Box.new w [.string t.name, .slice ta t.args.length tc] 28).alloc (.cells #[.string u.name, .slice ua u.args.length uc] 28)).alloc (.cells #[.string ⟨#[]⟩, .slice none 0 0] 28))
        simpa only [World.size_alloc] using this
      have bu : Box (((w.alloc (.cells #[.string t.name, .slice ta t.args.length tc] 28)).alloc (.cells #[.string u.name, .slice ua u.args.length uc] 28)).alloc (.cells #[.string ⟨#[]⟩, .slice none 0 0] 28)) (w.heap.size + 1) [.string u.name, .slice ua u.args.length uc] := by
        have := ((Box.new (w.alloc (.cells #[.string t.name, .slice ta t.args.length tc] 28)) [.string u.name, .slice ua u.args.length uc] 28).alloc (.cells #[.string ⟨#[]⟩, .slice none 0 0] 28))
        simpa only [World.size_alloc] using this
      have rb : Box (((w.alloc (.cells #[.string t.name, .slice ta t.args.length tc] 28)).alloc (.cells #[.string u.name, .slice ua u.args.length uc] 28)).alloc (.cells #[.string ⟨#[]⟩, .slice none 0 0] 28)) (w.heap.size + 1 + 1) [.string ⟨#[]⟩, .slice none 0 0] := by
        have := (Box.new ((w.alloc (.cells #[.string t.name, .slice ta t.args.length tc] 28)).alloc (.cells #[.string u.name, .slice ua u.args.length uc] 28)) [.string ⟨#[]⟩, .slice none 0 0] 28)
        simpa only [World.size_alloc] using this
      have rf : ∀ p, (((w.alloc (.cells #[.string t.name, .slice ta t.args.length tc] 28)).alloc (.cells #[.string u.name, .slice ua u.args.length uc] 28)).alloc (.cells #[.string ⟨#[]⟩, .slice none 0 0] 28)).frozen? ⟨w.heap.size + 1 + 1, p, none⟩ = false := fun p => World.frozen?_alloc_at _ _ _ p (by simp)
      replace ht := Tm.at_keep (Keeps.all hW) ht
      replace hu := Tm.at_keep (Keeps.all hW) hu
      have et0 := bt.c0
      have et1 := bt.c1
      have lt := bt.lt
      have eu0 := bu.c0
      have eu1 := bu.c1
      have lu := bu.lt
      have re0 := rb.c0
      have rf0 := rf 0
      have re1 := rb.c1
      have rf1 := rf 1
      have rl := rb.lt
      go_enter Tryd.func13, Tryd.ntmps13
      go_wp2_with fail
      clear et0 et1 lt eu0 eu1 lu re0 rf0 re1 rf1 rl
      have Hw0 : Hid ((((w.alloc (.cells #[.string t.name, .slice ta t.args.length tc] 28)).alloc (.cells #[.string u.name, .slice ua u.args.length uc] 28)).alloc (.cells #[.string ⟨#[]⟩, .slice none 0 0] 28)).heap.size = w.heap.size + 1 + 1 + 1) := by simp [Hid]
      generalize (((w.alloc (.cells #[.string t.name, .slice ta t.args.length tc] 28)).alloc (.cells #[.string u.name, .slice ua u.args.length uc] 28)).alloc (.cells #[.string ⟨#[]⟩, .slice none 0 0] 28)) = w0 at *
      clear hq hqi hqn hqj
      go_loopw [8] (fun i wr => ∃ k : Nat, k ≤ l.length ∧ i = .int .i64 k ∧ Hid (∀ j (h : j < l.length), j < k → eqP l[j] t u = false) ∧ Hid (Below w0.heap.size w0 wr)) (fun i _ => l.length - (intOf i).toNat)
      case atStart => exact ⟨0, Nat.zero_le _, rfl, fun j h h' => absurd h' (by omega), Below.refl _ _⟩
      case round =>
        obtain ⟨k, hk, rfl, HK, HB⟩ := hrel
        have hb := HB.out
        replace hW := hW.trans (hb.mono hW.size)
        replace bt := bt.keep hb
        replace ht := Tm.at_keep (Keeps.all hb) ht
        replace bu := bu.keep hb
        replace hu := Tm.at_keep (Keeps.all hb) hu
        replace rf := fun p => (hb.frozen (p := ⟨_, p, none⟩) rb.lt).trans (rf p)
        replace rb := rb.keep hb
        clear hb
        have HWR := hid hW
        have hzw := hW.size
        have hkI : (0 : Int) ≤ (k : Int) := by omega
        by_cases hlt : k < l.length
        · have hne : l ≠ [] := by intro e; subst e; simp at hlt
          obtain ⟨b, off, rfl, hSb, hbl, hrr⟩ := pr_get (pr_rd (HV.out.keep HWR.out)) hne
          obtain ⟨x0, x1, y0, y1, q0, q1, q2, q3, qx, qy⟩ := hrr k hlt
          have hqx := hid qx
          have hqy := hid qy
          obtain ⟨rfl, -, xa, xc, rfl⟩ := Tm.at_form qx
          obtain ⟨rfl, -, ya, yc, rfl⟩ := Tm.at_form qy
          have q3' : wr.cell? ⟨b, off + k * 4 + 2 + 1, none⟩ = some (.slice ya l[k].2.args.length yc) := q3
          have hs1 := l2Same_any l[k].1 t
          have hs2 := l2Same_any l[k].2 u
          unfold Tells at hs1 hs2
          clear hrr qx qy
          obtain ⟨E1, HE1⟩ : ∃ E1, Hid (Tm.eqb l[k].1 t = E1) := ⟨_, hid rfl⟩
          obtain ⟨E2, HE2⟩ : ∃ E2, Hid (Tm.eqb l[k].2 u = E2) := ⟨_, hid rfl⟩
          rw [HE1.out] at hs1
          rw [HE2.out] at hs2
          have HEQ := hid (eqP_of HE1.out HE2.out)
          have HS1 := hid hs1
          have HS2 := hid hs2
          clear hs1 hs2
          cases E1 with
          | true =>
            cases E2 with
            | true =>
              have HI : Hid (idxP l t u = k) := idxP_at hk HK.out (fun _ => HEQ.out)
              have HRR : Hid (R = (.node (⟨#[71]⟩ ++ itoaB (k : Int)) [], l)) := by
                rw [Hid, HGO.out, genVar, HI.out, addP, HI.out, if_pos hlt]; rfl
              have HNUM := hid (l1Num_any (k : Int) (by omega) (by omega))
              have hzi := itoaB_size (n := (k : Int)) (by omega) (by omega)
              have g4 : ¬ 9223372036854775807 < 1 + (itoaB (k : Int)).size := by omega
              have et0 := bt.c0
              have et1 := bt.c1
              have lt := bt.lt
              have eu0 := bu.c0
              have eu1 := bu.c1
              have lu := bu.lt
              have re0 := rb.c0
              have rf0 := rf 0
              have re1 := rb.c1
              have rf1 := rf 1
              have rl := rb.lt
              go_wp2_with fail
              refine wp_region_B [fun v _ => v = .slice (some ⟨b, off, none⟩) l.length vc, fun v _ => v = .int .i64 k, fun v _ => v = .pointer (some ⟨b, off + k * 4, none⟩), fun v _ => v = .pointer (some ⟨b, off + k * 4, none⟩), fun v _ => v = .agg #[.string l[k].1.name, .slice xa l[k].1.args.length xc], fun v _ => v = .agg #[.string t.name, .slice ta t.args.length tc], fun v _ => v = .bool true, fun v _ => v = .bool true, fun v _ => v = .slice (some ⟨b, off, none⟩) l.length vc, fun v _ => v = .int .i64 k, fun v _ => v = .pointer (some ⟨b, off + k * 4, none⟩), fun v _ => v = .pointer (some ⟨b, off + k * 4 + 2, none⟩), fun v _ => v = .agg #[.string l[k].2.name, .slice ya l[k].2.args.length yc], fun v _ => v = .agg #[.string u.name, .slice ua u.args.length uc], fun v _ => v = .bool true, fun v _ => v = .bool true] _ (fun V => by simp [putAll, Act.put]; rfl) (by kernel_rfl) (by decide) (by simp) (by kernel_rfl) ?_ ?_ ?_
              · intro F hF
                simp only [List.mem_cons, List.not_mem_nil, or_false] at hF
                rcases hF with rfl | rfl | rfl | rfl | rfl | rfl | rfl | rfl | rfl | rfl | rfl | rfl | rfl | rfl | rfl | rfl
                · exact stable_eq
                · exact stable_eq
                · exact stable_eq
                · exact stable_eq
                · exact stable_eq
                · exact stable_eq
                · exact stable_eq
                · exact stable_eq
                · exact stable_eq
                · exact stable_eq
                · exact stable_eq
                · exact stable_eq
                · exact stable_eq
                · exact stable_eq
                · exact stable_eq
                · exact stable_eq
              · refine ⟨?_, ?_, ?_, ?_, ?_, ?_, ?_, ?_, ?_, ?_, ?_, ?_, ?_, ?_, ?_, ?_, trivial⟩
                · intro V w1 hbR _
                  unfold Does
                  go_simp
                  exact ⟨Below.refl _ _, rfl⟩
                · intro V w1 hbR _
                  unfold Does
                  go_simp
                  exact ⟨Below.refl _ _, rfl⟩
                · intro V w1 hbR ⟨f0, f1, _⟩
                  replace f0 : V 0 = .slice (some ⟨b, off, none⟩) l.length vc := f0
                  replace f1 : V 1 = .int .i64 k := f1
                  unfold Does
                  go_simp
                  exact ⟨Below.refl _ _, rfl⟩
                · intro V w1 hbR ⟨f2, _⟩
                  replace f2 : V 2 = .pointer (some ⟨b, off + k * 4, none⟩) := f2
                  unfold Does
                  go_simp
                  exact ⟨Below.refl _ _, rfl⟩
                · intro V w1 hbR ⟨f3, _⟩
                  replace f3 : V 3 = .pointer (some ⟨b, off + k * 4, none⟩) := f3
                  obtain ⟨hc, hf⟩ := bcell hbR
                  try simp only [World.size_alloc, World.size_setCell] at hc hf
                  unfold Does
                  go_simp
                  exact ⟨Below.refl _ _, rfl⟩
                · intro V w1 hbR _
                  obtain ⟨hc, hf⟩ := bcell hbR
                  try simp only [World.size_alloc, World.size_setCell] at hc hf
                  unfold Does
                  go_simp
                  exact ⟨Below.refl _ _, rfl⟩
                · intro V w1 hbR ⟨f4, f5, _⟩
                  replace f4 : V 4 = .agg #[.string l[k].1.name, .slice xa l[k].1.args.length xc] := f4
                  replace f5 : V 5 = .agg #[.string t.name, .slice ta t.args.length tc] := f5
                  obtain ⟨hc, hf⟩ := bcell hbR
                  try simp only [World.size_alloc, World.size_setCell] at hc hf
                  unfold Does
                  go_simp
                  exact (HS1.out _ _ _ _ _ _ (Tm.at_keep (Keeps.all hbR) (Tm.at_all hqx.out)) (Tm.at_keep (Keeps.all hbR) (Tm.at_all ht))).mono (fun _ _ ⟨h1, h2⟩ => ⟨_, h1, h2, rfl⟩)
                · intro V w1 hbR ⟨f6, _, _⟩
                  replace f6 : V 6 = .bool true := f6
                  unfold Does
                  go_simp
                  exact ⟨Below.refl _ _, rfl⟩
                · intro V w1 hbR ⟨f7, _⟩
                  replace f7 : V 7 = .bool true := f7
                  refine .inl ⟨_, f7, fun hg => ?_, fun hg => ?_⟩
                  · unfold Does
                    go_simp
                    exact ⟨Below.refl _ _, rfl⟩
                  · exact absurd rfl hg
                · intro V w1 hbR ⟨f7, _⟩
                  replace f7 : V 7 = .bool true := f7
                  refine .inl ⟨_, f7, fun hg => ?_, fun hg => ?_⟩
                  · unfold Does
                    go_simp
                    exact ⟨Below.refl _ _, rfl⟩
                  · exact absurd rfl hg
                · intro V w1 hbR ⟨f8, f9, f7, _⟩
                  replace f7 : V 7 = .bool true := f7
                  replace f8 : V 8 = .slice (some ⟨b, off, none⟩) l.length vc := f8
                  replace f9 : V 9 = .int .i64 k := f9
                  refine .inl ⟨_, f7, fun hg => ?_, fun hg => ?_⟩
                  · unfold Does
                    go_simp
                    exact ⟨Below.refl _ _, rfl⟩
                  · exact absurd rfl hg
                · intro V w1 hbR ⟨f10, f7, _⟩
                  replace f7 : V 7 = .bool true := f7
                  replace f10 : V 10 = .pointer (some ⟨b, off + k * 4, none⟩) := f10
                  refine .inl ⟨_, f7, fun hg => ?_, fun hg => ?_⟩
                  · unfold Does
                    go_simp
                    exact ⟨Below.refl _ _, rfl⟩
                  · exact absurd rfl hg
                · intro V w1 hbR ⟨f11, f7, _⟩
                  replace f7 : V 7 = .bool true := f7
                  replace f11 : V 11 = .pointer (some ⟨b, off + k * 4 + 2, none⟩) := f11
                  refine .inl ⟨_, f7, fun hg => ?_, fun hg => ?_⟩
                  · obtain ⟨hc, hf⟩ := bcell hbR
                    try simp only [World.size_alloc, World.size_setCell] at hc hf
                    unfold Does
                    go_simp
                    exact ⟨Below.refl _ _, rfl⟩
                  · exact absurd rfl hg
                · intro V w1 hbR ⟨f7, _⟩
                  replace f7 : V 7 = .bool true := f7
                  refine .inl ⟨_, f7, fun hg => ?_, fun hg => ?_⟩
                  · obtain ⟨hc, hf⟩ := bcell hbR
                    try simp only [World.size_alloc, World.size_setCell] at hc hf
                    unfold Does
                    go_simp
                    exact ⟨Below.refl _ _, rfl⟩
                  · exact absurd rfl hg
                · intro V w1 hbR ⟨f12, f13, f7, _, _⟩
                  replace f7 : V 7 = .bool true := f7
                  replace f12 : V 12 = .agg #[.string l[k].2.name, .slice ya l[k].2.args.length yc] := f12
                  replace f13 : V 13 = .agg #[.string u.name, .slice ua u.args.length uc] := f13
                  refine .inl ⟨_, f7, fun hg => ?_, fun hg => ?_⟩
                  · obtain ⟨hc, hf⟩ := bcell hbR
                    try simp only [World.size_alloc, World.size_setCell] at hc hf
                    unfold Does
                    go_simp
                    exact (HS2.out _ _ _ _ _ _ (Tm.at_keep (Keeps.all hbR) (Tm.at_all hqy.out)) (Tm.at_keep (Keeps.all hbR) (Tm.at_all hu))).mono (fun _ _ ⟨h1, h2⟩ => ⟨_, h1, h2, rfl⟩)
                  · exact absurd rfl hg
                · intro V w1 hbR ⟨f7, f14, _⟩
                  replace f7 : V 7 = .bool true := f7
                  replace f14 : V 14 = .bool true := f14
                  unfold Does
                  go_simp
                  exact ⟨Below.refl _ _, rfl⟩
              intro V w3 hbR hfR
              obtain ⟨f0, f1, f2, f3, f4, f5, f6, f7, f8, f9, f10, f11, f12, f13, f14, f15, _⟩ := hfR
              replace f0 : V 0 = .slice (some ⟨b, off, none⟩) l.length vc := f0
              replace f1 : V 1 = .int .i64 k := f1
              replace f2 : V 2 = .pointer (some ⟨b, off + k * 4, none⟩) := f2
              replace f3 : V 3 = .pointer (some ⟨b, off + k * 4, none⟩) := f3
              replace f4 : V 4 = .agg #[.string l[k].1.name, .slice xa l[k].1.args.length xc] := f4
              replace f5 : V 5 = .agg #[.string t.name, .slice ta t.args.length tc] := f5
              replace f6 : V 6 = .bool true := f6
              replace f7 : V 7 = .bool true := f7
              replace f8 : V 8 = .slice (some ⟨b, off, none⟩) l.length vc := f8
              replace f9 : V 9 = .int .i64 k := f9
              replace f10 : V 10 = .pointer (some ⟨b, off + k * 4, none⟩) := f10
              replace f11 : V 11 = .pointer (some ⟨b, off + k * 4 + 2, none⟩) := f11
              replace f12 : V 12 = .agg #[.string l[k].2.name, .slice ya l[k].2.args.length yc] := f12
              replace f13 : V 13 = .agg #[.string u.name, .slice ua u.args.length uc] := f13
              replace f14 : V 14 = .bool true := f14
              replace f15 : V 15 = .bool true := f15
              simp only [f0, f1, f2, f3, f4, f5, f6, f7, f8, f9, f10, f11, f12, f13, f14, f15]
              clear f0 f1 f2 f3 f4 f5 f6 f7 f8 f9 f10 f11 f12 f13 f14 f15
              clear et0 et1 lt eu0 eu1 lu re0 rf0 re1 rf1 rl
              have hb := hbR
              replace hW := hW.trans (hb.mono hW.size)
              replace bt := bt.keep hb
              replace ht := Tm.at_keep (Keeps.all hb) ht
              replace bu := bu.keep hb
              replace hu := Tm.at_keep (Keeps.all hb) hu
              replace rf := fun p => (hb.frozen (p := ⟨_, p, none⟩) rb.lt).trans (rf p)
              replace rb := rb.keep hb
              clear hb hbR q0 q1 q2 q3 q3'
              have et0 := bt.c0
              have et1 := bt.c1
              have lt := bt.lt
              have eu0 := bu.c0
              have eu1 := bu.c1
              have lu := bu.lt
              have re0 := rb.c0
              have rf0 := rf 0
              have re1 := rb.c1
              have rf1 := rf 1
              have rl := rb.lt
              go_wp2_with fail
              clear et0 et1 lt eu0 eu1 lu re0 rf0 re1 rf1 rl
              refine (HNUM.out _).mono ?_
              rintro e w4 ⟨_, rfl, hb, rfl⟩
              replace hW := hW.trans (hb.mono hW.size)
              replace bt := bt.keep hb
              replace ht := Tm.at_keep (Keeps.all hb) ht
              replace bu := bu.keep hb
              replace hu := Tm.at_keep (Keeps.all hb) hu
              replace rf := fun p => (hb.frozen (p := ⟨_, p, none⟩) rb.lt).trans (rf p)
              replace rb := rb.keep hb
              clear hb
              have et0 := bt.c0
              have et1 := bt.c1
              have lt := bt.lt
              have eu0 := bu.c0
              have eu1 := bu.c1
              have lu := bu.lt
              have re0 := rb.c0
              have rf0 := rf 0
              have re1 := rb.c1
              have rf1 := rf 1
              have rl := rb.lt
              go_wp2_with fail
              refine bodyPost_ret (v := .tuple #[.agg #[.string (⟨#[71]⟩ ++ itoaB (k : Int)), .slice none 0 0], .slice (some ⟨b, off, none⟩) l.length vc]) (by simp [results, Tryd.results13, go_sem, rb.c0, rb.c1]; try rfl) rfl ?_
              have HWF := hid ((hW.setCell (p := ⟨w.heap.size + 1 + 1, 0, none⟩) (by show w.heap.size ≤ w.heap.size + 1 + 1; omega) (.string (⟨#[71]⟩ ++ itoaB (k : Int)))).setCell (p := ⟨w.heap.size + 1 + 1, 1, none⟩) (by show w.heap.size ≤ w.heap.size + 1 + 1; omega) (.slice none 0 0))
              rw [HRR.out]
              exact ⟨.slice none 0 0, [], _, rfl, D.own_nil _ _, by simp, by simp, HV.out.keep HWF.out, grown_of_below HWF.out _, Goes.refl _ _⟩
            | false =>
              have HKN : Hid (∀ j (h : j < l.length), j < k + 1 → eqP l[j] t u = false) := fun j h hj => by
                by_cases hjk : j < k
                · exact HK.out j h hjk
                · obtain rfl : j = k := by omega
                  exact HEQ.out
              have et0 := bt.c0
              have et1 := bt.c1
              have lt := bt.lt
              have eu0 := bu.c0
              have eu1 := bu.c1
              have lu := bu.lt
              have re0 := rb.c0
              have rf0 := rf 0
              have re1 := rb.c1
              have rf1 := rf 1
              have rl := rb.lt
              go_wp2_with fail
              refine wp_region_B [fun v _ => v = .slice (some ⟨b, off, none⟩) l.length vc, fun v _ => v = .int .i64 k, fun v _ => v = .pointer (some ⟨b, off + k * 4, none⟩), fun v _ => v = .pointer (some ⟨b, off + k * 4, none⟩), fun v _ => v = .agg #[.string l[k].1.name, .slice xa l[k].1.args.length xc], fun v _ => v = .agg #[.string t.name, .slice ta t.args.length tc], fun v _ => v = .bool true, fun v _ => v = .bool true, fun v _ => v = .slice (some ⟨b, off, none⟩) l.length vc, fun v _ => v = .int .i64 k, fun v _ => v = .pointer (some ⟨b, off + k * 4, none⟩), fun v _ => v = .pointer (some ⟨b, off + k * 4 + 2, none⟩), fun v _ => v = .agg #[.string l[k].2.name, .slice ya l[k].2.args.length yc], fun v _ => v = .agg #[.string u.name, .slice ua u.args.length uc], fun v _ => v = .bool false, fun v _ => v = .bool false] _ (fun V => by simp [putAll, Act.put]; rfl) (by kernel_rfl) (by decide) (by simp) (by kernel_rfl) ?_ ?_ ?_
              · intro F hF
                simp only [List.mem_cons, List.not_mem_nil, or_false] at hF
                rcases hF with rfl | rfl | rfl | rfl | rfl | rfl | rfl | rfl | rfl | rfl | rfl | rfl | rfl | rfl | rfl | rfl
                · exact stable_eq
                · exact stable_eq
                · exact stable_eq
                · exact stable_eq
                · exact stable_eq
                · exact stable_eq
                · exact stable_eq
                · exact stable_eq
                · exact stable_eq
                · exact stable_eq
                · exact stable_eq
                · exact stable_eq
                · exact stable_eq
                · exact stable_eq
                · exact stable_eq
                · exact stable_eq
              · refine ⟨?_, ?_, ?_, ?_, ?_, ?_, ?_, ?_, ?_, ?_, ?_, ?_, ?_, ?_, ?_, ?_, trivial⟩
                · intro V w1 hbR _
                  unfold Does
                  go_simp
                  exact ⟨Below.refl _ _, rfl⟩
                · intro V w1 hbR _
                  unfold Does
                  go_simp
                  exact ⟨Below.refl _ _, rfl⟩
                · intro V w1 hbR ⟨f0, f1, _⟩
                  replace f0 : V 0 = .slice (some ⟨b, off, none⟩) l.length vc := f0
                  replace f1 : V 1 = .int .i64 k := f1
                  unfold Does
                  go_simp
                  exact ⟨Below.refl _ _, rfl⟩
                · intro V w1 hbR ⟨f2, _⟩
                  replace f2 : V 2 = .pointer (some ⟨b, off + k * 4, none⟩) := f2
                  unfold Does
                  go_simp
                  exact ⟨Below.refl _ _, rfl⟩
                · intro V w1 hbR ⟨f3, _⟩
                  replace f3 : V 3 = .pointer (some ⟨b, off + k * 4, none⟩) := f3
                  obtain ⟨hc, hf⟩ := bcell hbR
                  try simp only [World.size_alloc, World.size_setCell] at hc hf
                  unfold Does
                  go_simp
                  exact ⟨Below.refl _ _, rfl⟩
                · intro V w1 hbR _
                  obtain ⟨hc, hf⟩ := bcell hbR
                  try simp only [World.size_alloc, World.size_setCell] at hc hf
                  unfold Does
                  go_simp
                  exact ⟨Below.refl _ _, rfl⟩
                · intro V w1 hbR ⟨f4, f5, _⟩
                  replace f4 : V 4 = .agg #[.string l[k].1.name, .slice xa l[k].1.args.length xc] := f4
                  replace f5 : V 5 = .agg #[.string t.name, .slice ta t.args.length tc] := f5
                  obtain ⟨hc, hf⟩ := bcell hbR
                  try simp only [World.size_alloc, World.size_setCell] at hc hf
                  unfold Does
                  go_simp
                  exact (HS1.out _ _ _ _ _ _ (Tm.at_keep (Keeps.all hbR) (Tm.at_all hqx.out)) (Tm.at_keep (Keeps.all hbR) (Tm.at_all ht))).mono (fun _ _ ⟨h1, h2⟩ => ⟨_, h1, h2, rfl⟩)
                · intro V w1 hbR ⟨f6, _, _⟩
                  replace f6 : V 6 = .bool true := f6
                  unfold Does
                  go_simp
                  exact ⟨Below.refl _ _, rfl⟩
                · intro V w1 hbR ⟨f7, _⟩
                  replace f7 : V 7 = .bool true := f7
                  refine .inl ⟨_, f7, fun hg => ?_, fun hg => ?_⟩
                  · unfold Does
                    go_simp
                    exact ⟨Below.refl _ _, rfl⟩
                  · exact absurd rfl hg
                · intro V w1 hbR ⟨f7, _⟩
                  replace f7 : V 7 = .bool true := f7
                  refine .inl ⟨_, f7, fun hg => ?_, fun hg => ?_⟩
                  · unfold Does
                    go_simp
                    exact ⟨Below.refl _ _, rfl⟩
                  · exact absurd rfl hg
                · intro V w1 hbR ⟨f8, f9, f7, _⟩
                  replace f7 : V 7 = .bool true := f7
                  replace f8 : V 8 = .slice (some ⟨b, off, none⟩) l.length vc := f8
                  replace f9 : V 9 = .int .i64 k := f9
                  refine .inl ⟨_, f7, fun hg => ?_, fun hg => ?_⟩
                  · unfold Does
                    go_simp
                    exact ⟨Below.refl _ _, rfl⟩
                  · exact absurd rfl hg
                · intro V w1 hbR ⟨f10, f7, _⟩
                  replace f7 : V 7 = .bool true := f7
                  replace f10 : V 10 = .pointer (some ⟨b, off + k * 4, none⟩) := f10
                  refine .inl ⟨_, f7, fun hg => ?_, fun hg => ?_⟩
                  · unfold Does
                    go_simp
                    exact ⟨Below.refl _ _, rfl⟩
                  · exact absurd rfl hg
                · intro V w1 hbR ⟨f11, f7, _⟩
                  replace f7 : V 7 = .bool true := f7
                  replace f11 : V 11 = .pointer (some ⟨b, off + k * 4 + 2, none⟩) := f11
                  refine .inl ⟨_, f7, fun hg => ?_, fun hg => ?_⟩
                  · obtain ⟨hc, hf⟩ := bcell hbR
                    try simp only [World.size_alloc, World.size_setCell] at hc hf
                    unfold Does
                    go_simp
                    exact ⟨Below.refl _ _, rfl⟩
                  · exact absurd rfl hg
                · intro V w1 hbR ⟨f7, _⟩
                  replace f7 : V 7 = .bool true := f7
                  refine .inl ⟨_, f7, fun hg => ?_, fun hg => ?_⟩
                  · obtain ⟨hc, hf⟩ := bcell hbR
                    try simp only [World.size_alloc, World.size_setCell] at hc hf
                    unfold Does
                    go_simp
                    exact ⟨Below.refl _ _, rfl⟩
                  · exact absurd rfl hg
                · intro V w1 hbR ⟨f12, f13, f7, _, _⟩
                  replace f7 : V 7 = .bool true := f7
                  replace f12 : V 12 = .agg #[.string l[k].2.name, .slice ya l[k].2.args.length yc] := f12
                  replace f13 : V 13 = .agg #[.string u.name, .slice ua u.args.length uc] := f13
                  refine .inl ⟨_, f7, fun hg => ?_, fun hg => ?_⟩
                  · obtain ⟨hc, hf⟩ := bcell hbR
                    try simp only [World.size_alloc, World.size_setCell] at hc hf
                    unfold Does
                    go_simp
                    exact (HS2.out _ _ _ _ _ _ (Tm.at_keep (Keeps.all hbR) (Tm.at_all hqy.out)) (Tm.at_keep (Keeps.all hbR) (Tm.at_all hu))).mono (fun _ _ ⟨h1, h2⟩ => ⟨_, h1, h2, rfl⟩)
                  · exact absurd rfl hg
                · intro V w1 hbR ⟨f7, f14, _⟩
                  replace f7 : V 7 = .bool true := f7
                  replace f14 : V 14 = .bool false := f14
                  unfold Does
                  go_simp
                  exact ⟨Below.refl _ _, rfl⟩
              intro V w3 hbR hfR
              obtain ⟨f0, f1, f2, f3, f4, f5, f6, f7, f8, f9, f10, f11, f12, f13, f14, f15, _⟩ := hfR
              replace f0 : V 0 = .slice (some ⟨b, off, none⟩) l.length vc := f0
              replace f1 : V 1 = .int .i64 k := f1
              replace f2 : V 2 = .pointer (some ⟨b, off + k * 4, none⟩) := f2
              replace f3 : V 3 = .pointer (some ⟨b, off + k * 4, none⟩) := f3
              replace f4 : V 4 = .agg #[.string l[k].1.name, .slice xa l[k].1.args.length xc] := f4
              replace f5 : V 5 = .agg #[.string t.name, .slice ta t.args.length tc] := f5
              replace f6 : V 6 = .bool true := f6
              replace f7 : V 7 = .bool true := f7
              replace f8 : V 8 = .slice (some ⟨b, off, none⟩) l.length vc := f8
              replace f9 : V 9 = .int .i64 k := f9
              replace f10 : V 10 = .pointer (some ⟨b, off + k * 4, none⟩) := f10
              replace f11 : V 11 = .pointer (some ⟨b, off + k * 4 + 2, none⟩) := f11
              replace f12 : V 12 = .agg #[.string l[k].2.name, .slice ya l[k].2.args.length yc] := f12
              replace f13 : V 13 = .agg #[.string u.name, .slice ua u.args.length uc] := f13
              replace f14 : V 14 = .bool false := f14
              replace f15 : V 15 = .bool false := f15
              simp only [f0, f1, f2, f3, f4, f5, f6, f7, f8, f9, f10, f11, f12, f13, f14, f15]
              clear f0 f1 f2 f3 f4 f5 f6 f7 f8 f9 f10 f11 f12 f13 f14 f15
              clear et0 et1 lt eu0 eu1 lu re0 rf0 re1 rf1 rl
              have HBN := hid (HB.out.trans (hbR.mono HB.out.size))
              go_wp2_with fail
              go_roundw
              case rel => exact ⟨k + 1, by omega, by go_num, HKN, HBN⟩
              case measure => simp [intOf]; omega
          | false =>
            have HKN : Hid (∀ j (h : j < l.length), j < k + 1 → eqP l[j] t u = false) := fun j h hj => by
              by_cases hjk : j < k
              · exact HK.out j h hjk
              · obtain rfl : j = k := by omega
                rw [HEQ.out]; rfl
            have et0 := bt.c0
            have et1 := bt.c1
            have lt := bt.lt
            have eu0 := bu.c0
            have eu1 := bu.c1
            have lu := bu.lt
            have re0 := rb.c0
            have rf0 := rf 0
            have re1 := rb.c1
            have rf1 := rf 1
            have rl := rb.lt
            go_wp2_with fail
            refine wp_region_B [fun v _ => v = .slice (some ⟨b, off, none⟩) l.length vc, fun v _ => v = .int .i64 k, fun v _ => v = .pointer (some ⟨b, off + k * 4, none⟩), fun v _ => v = .pointer (some ⟨b, off + k * 4, none⟩), fun v _ => v = .agg #[.string l[k].1.name, .slice xa l[k].1.args.length xc], fun v _ => v = .agg #[.string t.name, .slice ta t.args.length tc], fun v _ => v = .bool false, fun v _ => v = .bool false, fun v _ => v = undef, fun v _ => v = undef, fun v _ => v = undef, fun v _ => v = undef, fun v _ => v = undef, fun v _ => v = undef, fun v _ => v = undef, fun v _ => v = .bool false] _ (fun V => by simp [putAll, Act.put]; rfl) (by kernel_rfl) (by decide) (by simp) (by kernel_rfl) ?_ ?_ ?_
            · intro F hF
              simp only [List.mem_cons, List.not_mem_nil, or_false] at hF
              rcases hF with rfl | rfl | rfl | rfl | rfl | rfl | rfl | rfl | rfl | rfl | rfl | rfl | rfl | rfl | rfl | rfl
              · exact stable_eq
              · exact stable_eq
              · exact stable_eq
              · exact stable_eq
              · exact stable_eq
              · exact stable_eq
              · exact stable_eq
              · exact stable_eq
              · exact stable_eq
              · exact stable_eq
              · exact stable_eq
              · exact stable_eq
              · exact stable_eq
              · exact stable_eq
              · exact stable_eq
              · exact stable_eq
            · refine ⟨?_, ?_, ?_, ?_, ?_, ?_, ?_, ?_, ?_, ?_, ?_, ?_, ?_, ?_, ?_, ?_, trivial⟩
              · intro V w1 hbR _
                unfold Does
                go_simp
                exact ⟨Below.refl _ _, rfl⟩
              · intro V w1 hbR _
                unfold Does
                go_simp
                exact ⟨Below.refl _ _, rfl⟩
              · intro V w1 hbR ⟨f0, f1, _⟩
                replace f0 : V 0 = .slice (some ⟨b, off, none⟩) l.length vc := f0
                replace f1 : V 1 = .int .i64 k := f1
                unfold Does
                go_simp
                exact ⟨Below.refl _ _, rfl⟩
              · intro V w1 hbR ⟨f2, _⟩
                replace f2 : V 2 = .pointer (some ⟨b, off + k * 4, none⟩) := f2
                unfold Does
                go_simp
                exact ⟨Below.refl _ _, rfl⟩
              · intro V w1 hbR ⟨f3, _⟩
                replace f3 : V 3 = .pointer (some ⟨b, off + k * 4, none⟩) := f3
                obtain ⟨hc, hf⟩ := bcell hbR
                try simp only [World.size_alloc, World.size_setCell] at hc hf
                unfold Does
                go_simp
                exact ⟨Below.refl _ _, rfl⟩
              · intro V w1 hbR _
                obtain ⟨hc, hf⟩ := bcell hbR
                try simp only [World.size_alloc, World.size_setCell] at hc hf
                unfold Does
                go_simp
                exact ⟨Below.refl _ _, rfl⟩
              · intro V w1 hbR ⟨f4, f5, _⟩
                replace f4 : V 4 = .agg #[.string l[k].1.name, .slice xa l[k].1.args.length xc] := f4
                replace f5 : V 5 = .agg #[.string t.name, .slice ta t.args.length tc] := f5
                obtain ⟨hc, hf⟩ := bcell hbR
                try simp only [World.size_alloc, World.size_setCell] at hc hf
                unfold Does
                go_simp
                exact (HS1.out _ _ _ _ _ _ (Tm.at_keep (Keeps.all hbR) (Tm.at_all hqx.out)) (Tm.at_keep (Keeps.all hbR) (Tm.at_all ht))).mono (fun _ _ ⟨h1, h2⟩ => ⟨_, h1, h2, rfl⟩)
              · intro V w1 hbR ⟨f6, _, _⟩
                replace f6 : V 6 = .bool false := f6
                unfold Does
                go_simp
                exact ⟨Below.refl _ _, rfl⟩
              · intro V w1 hbR ⟨f7, _⟩
                replace f7 : V 7 = .bool false := f7
                refine .inl ⟨_, f7, fun hg => ?_, fun hg => ?_⟩
                · exact absurd hg (by decide)
                · rfl
              · intro V w1 hbR ⟨f7, _⟩
                replace f7 : V 7 = .bool false := f7
                refine .inl ⟨_, f7, fun hg => ?_, fun hg => ?_⟩
                · exact absurd hg (by decide)
                · rfl
              · intro V w1 hbR ⟨f8, f9, f7, _⟩
                replace f7 : V 7 = .bool false := f7
                replace f8 : V 8 = undef := f8
                replace f9 : V 9 = undef := f9
                refine .inl ⟨_, f7, fun hg => ?_, fun hg => ?_⟩
                · exact absurd hg (by decide)
                · rfl
              · intro V w1 hbR ⟨f10, f7, _⟩
                replace f7 : V 7 = .bool false := f7
                replace f10 : V 10 = undef := f10
                refine .inl ⟨_, f7, fun hg => ?_, fun hg => ?_⟩
                · exact absurd hg (by decide)
                · rfl
              · intro V w1 hbR ⟨f11, f7, _⟩
                replace f7 : V 7 = .bool false := f7
                replace f11 : V 11 = undef := f11
                refine .inl ⟨_, f7, fun hg => ?_, fun hg => ?_⟩
                · exact absurd hg (by decide)
                · rfl
              · intro V w1 hbR ⟨f7, _⟩
                replace f7 : V 7 = .bool false := f7
                refine .inl ⟨_, f7, fun hg => ?_, fun hg => ?_⟩
                · exact absurd hg (by decide)
                · rfl
              · intro V w1 hbR ⟨f12, f13, f7, _, _⟩
                replace f7 : V 7 = .bool false := f7
                replace f12 : V 12 = undef := f12
                replace f13 : V 13 = undef := f13
                refine .inl ⟨_, f7, fun hg => ?_, fun hg => ?_⟩
                · exact absurd hg (by decide)
                · rfl
              · intro V w1 hbR ⟨f7, f14, _⟩
                replace f7 : V 7 = .bool false := f7
                replace f14 : V 14 = undef := f14
                unfold Does
                go_simp
                exact ⟨Below.refl _ _, rfl⟩
            intro V w3 hbR hfR
            obtain ⟨f0, f1, f2, f3, f4, f5, f6, f7, f8, f9, f10, f11, f12, f13, f14, f15, _⟩ := hfR
            replace f0 : V 0 = .slice (some ⟨b, off, none⟩) l.length vc := f0
            replace f1 : V 1 = .int .i64 k := f1
            replace f2 : V 2 = .pointer (some ⟨b, off + k * 4, none⟩) := f2
            replace f3 : V 3 = .pointer (some ⟨b, off + k * 4, none⟩) := f3
            replace f4 : V 4 = .agg #[.string l[k].1.name, .slice xa l[k].1.args.length xc] := f4
            replace f5 : V 5 = .agg #[.string t.name, .slice ta t.args.length tc] := f5
            replace f6 : V 6 = .bool false := f6
            replace f7 : V 7 = .bool false := f7
            replace f8 : V 8 = undef := f8
            replace f9 : V 9 = undef := f9
            replace f10 : V 10 = undef := f10
            replace f11 : V 11 = undef := f11
            replace f12 : V 12 = undef := f12
            replace f13 : V 13 = undef := f13
            replace f14 : V 14 = undef := f14
            replace f15 : V 15 = .bool false := f15
            simp only [f0, f1, f2, f3, f4, f5, f6, f7, f8, f9, f10, f11, f12, f13, f14, f15]
            clear f0 f1 f2 f3 f4 f5 f6 f7 f8 f9 f10 f11 f12 f13 f14 f15
            clear et0 et1 lt eu0 eu1 lu re0 rf0 re1 rf1 rl
            have HBN := hid (HB.out.trans (hbR.mono HB.out.size))
            go_wp2_with fail
            go_roundw
            case rel => exact ⟨k + 1, by omega, by go_num, HKN, HBN⟩
            case measure => simp [intOf]; omega
        · obtain rfl : k = l.length := by omega
          have HI : Hid (idxP l t u = l.length) := idxP_end HK.out
          have HRR : Hid (R = (.node (⟨#[71]⟩ ++ itoaB (l.length : Int)) [], l ++ [(t, u)])) := by
            rw [Hid, HGO.out, genVar, HI.out, addP, HI.out, if_neg (by omega)]; rfl
          have HNUM := hid (l1Num_any (l.length : Int) (by omega) (by omega))
          have hzi := itoaB_size (n := (l.length : Int)) (by omega) (by omega)
          have g4 : ¬ 9223372036854775807 < 1 + (itoaB (l.length : Int)).size := by omega
          obtain ⟨r, Hr⟩ : ∃ r, Hid ((Value.slice va l.length vc).ownBlock = r) := ⟨_, hid rfl⟩
          have HL : Hid (∀ y, r = some y → B ≤ y ∧ y < w.heap.size) := fun y hy => HVL.out y (Hr.out.trans hy)
          have nR : ¬ r = some (w.heap.size + 1 + 1) := fun e => by have := HL.out _ e; omega
          have nT : ¬ r = some w.heap.size := fun e => by have := HL.out _ e; omega
          have nU : ¬ r = some (w.heap.size + 1) := fun e => by have := HL.out _ e; omega
          have HRV := hid (HV.out.keep HWR.out)
          have HNS : Hid (∀ y, (Value.slice va l.length vc).ownBlock = some y → ¬ S y) := fun y hy q => by have h1 := (HVL.out y hy).1; have h2 := HS.out y q; omega
          have HCR : Hid (CellsRd S wr [.string t.name, .slice ta t.args.length tc, .string u.name, .slice ua u.args.length uc] (prCs (t, u))) := ⟨ht.1, ht.2, hu.1, hu.2, trivial⟩
          have HBW := hid hB
          have hltn : ¬ (l.length : Int) < (l.length : Int) := by omega
          have et0 := bt.c0
          have et1 := bt.c1
          have lt := bt.lt
          have eu0 := bu.c0
          have eu1 := bu.c1
          have lu := bu.lt
          have re0 := rb.c0
          have rf0 := rf 0
          have re1 := rb.c1
          have rf1 := rf 1
          have rl := rb.lt
          go_wp2_with fail
          refine region_late (l := [_, _, _, _, _, _, _, _, _, _, _]) (tl := [_, _]) (S := fun w1 => (wr).grownBy w1 (r)) (n := 11) rfl rfl (by kernel_rfl) (by kernel_rfl) (grown_of_below ((Below.refl _ _).drew) _) (fun hQL hS => ?_)
          refine late_take (i := 0) (d := some 59) (v := .slice va l.length vc) rfl rfl (by kernel_rfl) (by kernel_rfl) (by kernel_rfl) hQL (by rfl) (fun w1 _ => (by go_simp)) hS ?_
          try simp only [Act.put, List.setIfInBounds_toArray, List.set_cons_zero, List.set_cons_succ]
          refine late_take (i := 1) (d := some 60) (v := .int .i64 l.length) rfl rfl (by kernel_rfl) (by kernel_rfl) (by kernel_rfl) hQL (by rfl) (fun w1 _ => (by go_simp)) hS ?_
          try simp only [Act.put, List.setIfInBounds_toArray, List.set_cons_zero, List.set_cons_succ]
          refine late_take (i := 5) (d := some 64) (v := .slice va l.length vc) rfl rfl (by kernel_rfl) (by kernel_rfl) (by kernel_rfl) hQL (by rfl) (fun w1 _ => (by go_simp)) hS ?_
          try simp only [Act.put, List.setIfInBounds_toArray, List.set_cons_zero, List.set_cons_succ]
          refine late_take (i := 6) (d := some 65) (v := .agg #[.string t.name, .slice ta t.args.length tc]) rfl rfl (by kernel_rfl) (by kernel_rfl) (by kernel_rfl) hQL (by rfl) (fun w1 hS1 => (by obtain ⟨hc, hf⟩ := bcellG hS1; go_simp)) hS ?_
          try simp only [Act.put, List.setIfInBounds_toArray, List.set_cons_zero, List.set_cons_succ]
          refine late_take (i := 7) (d := some 66) (v := .agg #[.string u.name, .slice ua u.args.length uc]) rfl rfl (by kernel_rfl) (by kernel_rfl) (by kernel_rfl) hQL (by rfl) (fun w1 hS1 => (by obtain ⟨hc, hf⟩ := bcellG hS1; go_simp)) hS ?_
          try simp only [Act.put, List.setIfInBounds_toArray, List.set_cons_zero, List.set_cons_succ]
          refine late_take (i := 8) (d := some 67) (v := .agg #[.string t.name, .slice ta t.args.length tc, .string u.name, .slice ua u.args.length uc]) rfl rfl (by kernel_rfl) (by kernel_rfl) (by kernel_rfl) hQL (by rfl) (fun w1 _ => (by go_simp)) hS ?_
          try simp only [Act.put, List.setIfInBounds_toArray, List.set_cons_zero, List.set_cons_succ]
          refine wpAnyH_ready (rs := [2, 9]) (by kernel_rfl) (by simp) ?_
          refine AllReadyH.cons rfl (fun K hK => ?_) (AllReadyH.cons rfl (fun K hK => ?_) AllReadyH.nil)
          · skip
            refine step_does rfl ?_
            unfold Does
            go_simp
            go_at_call 24
            refine (HNUM.out _).mono ?_
            rintro e wn ⟨_, rfl, hbn, rfl⟩
            have HBN : Hid (Below wr.heap.size wr wn) := ((Below.refl _ _).drew).trans (hbn.mono (Nat.le_refl _))
            clear hbn
            refine ⟨_, rfl, ?_⟩
            refine hK.out _ _ (grown_of_below HBN.out _) (fun hS => ?_)
            try show wpAnyH _ _ _ _ _ _ _ (Act.put _ (some 61) _) _
            try simp only [Act.put, List.setIfInBounds_toArray, List.set_cons_zero, List.set_cons_succ]
            refine late_take (i := 3) (d := some 62) (v := .string (⟨#[71]⟩ ++ itoaB (l.length : Int))) rfl rfl (by kernel_rfl) (by kernel_rfl) (by kernel_rfl) hQL (by rfl) (fun w1 _ => (by go_simp)) hS ?_
            try simp only [Act.put, List.setIfInBounds_toArray, List.set_cons_zero, List.set_cons_succ]
            refine late_take (i := 4) (d := some 63) (v := .agg #[.string (⟨#[71]⟩ ++ itoaB (l.length : Int)), .slice none 0 0]) rfl rfl (by kernel_rfl) (by kernel_rfl) (by kernel_rfl) hQL (by rfl) (fun w1 _ => (by go_simp)) hS ?_
            try simp only [Act.put, List.setIfInBounds_toArray, List.set_cons_zero, List.set_cons_succ]
            refine wpAnyH_ready (rs := [9]) (by kernel_rfl) (by simp) ?_
            refine AllReadyH.cons rfl (fun K hK => ?_) AllReadyH.nil
            go_simp
            refine hK.out _ _ (World.grownBy.trans hS (World.grownBy_alloc _ _ _)) (fun hS => ?_)
            try show wpAnyH _ _ _ _ _ _ _ (Act.put _ (some 68) _) _
            try simp only [Act.put, List.setIfInBounds_toArray, List.set_cons_zero, List.set_cons_succ]
            refine wpAnyH_ready (rs := [10]) (by kernel_rfl) (by simp) ?_
            refine AllReadyH.cons rfl (fun K hK => ?_) AllReadyH.nil
            refine step_append_rv (S := S) (B := B) (k := 1) (off := 0) (news := [.string t.name, .slice ta t.args.length tc, .string u.name, .slice ua u.args.length uc]) (es := prCs (t, u)) Tryd.underlying37 infoEqn rfl (by decide) (by decide) rfl _ _ (by rfl) (by rfl) (by rfl) (HRV.out.keep (HBN.out.alloc HBN.out.size _)) HNS.out rfl (by intro j u hj; rw [Nat.zero_add, box1]; simpa using hj) (HCR.out.keep (Keeps.all (HBN.out.alloc HBN.out.size _))) (by omega) (by rw [World.size_alloc]; have := HBN.out.size; have := HBW.out; omega) ?_
            intro v2 wg hrow hgr hgo
            rw [Hr.out] at hgr
            have HRF := hid hrow
            have HGO2 : Hid (Goes wr (.slice va l.length vc) v2) := fun y hy => by
              rcases hgo with q | q
              · exact .inl (q.symm.trans hy)
              · right; rw [q] at hy; injection hy with hy; rw [World.size_alloc] at hy; have := HBN.out.size; omega
            clear hrow hgo
            refine hK.out _ _ (World.grownBy.trans hS hgr) (fun hS => ?_)
            try show wpAnyH _ _ _ _ _ _ _ (Act.put _ (some 69) _) _
            try simp only [Act.put, List.setIfInBounds_toArray, List.set_cons_zero, List.set_cons_succ]
            refine wpAnyH_done (by kernel_rfl) ?_ _
            show wpTail _ _ _ _ _
            refine wpTail_step rfl (fun K hK => ?_)
            obtain ⟨hc, hf⟩ := bcellG hS
            go_simp
            refine hK.out _ _ ?_
            try clear hc hf
            refine wpTail_step rfl (fun K hK => ?_)
            obtain ⟨hc, hf⟩ := bcellG hS
            go_simp
            refine hK.out _ _ ?_
            try clear hc hf
            refine wpTail_nil ?_
            rename World => wF
            have z0 := ((bcellG hS).1 (w.heap.size + 1 + 1) 0 rl nR).trans re0
            have z1 := ((bcellG hS).1 (w.heap.size + 1 + 1) 1 rl nR).trans re1
            have HGF := hid (grown_trans (grown_of_below HWR.out r) hS (fun y hy => .inl hy))
            have HZF := hid hS.size
            clear hS
            go_wp2_with fail
            refine bodyPost_ret (v := .tuple #[.agg #[.string (⟨#[71]⟩ ++ itoaB (l.length : Int)), .slice none 0 0], v2]) (by simp [results, Tryd.results13, go_sem, z0, z1]; try rfl) rfl ?_
            have HG1 : Hid (wF.grownBy ((wF.setCell ⟨w.heap.size + 1 + 1, 0, none⟩ (.string (⟨#[71]⟩ ++ itoaB (l.length : Int)))).setCell ⟨w.heap.size + 1 + 1, 1, none⟩ (.slice none 0 0)) (some (w.heap.size + 1 + 1))) := (World.grownBy.trans (grown_setCell wF ⟨w.heap.size + 1 + 1, 0, none⟩ (.string (⟨#[71]⟩ ++ itoaB (l.length : Int)))) (grown_setCell _ ⟨w.heap.size + 1 + 1, 1, none⟩ (.slice none 0 0)))
            rw [HRR.out]
            refine ⟨.slice none 0 0, [], v2, rfl, D.own_nil _ _, by simp, by simp, ?_, ?_, Goes.trans (Goes.refl w _) hzw HGO2.out⟩
            · have HF2 := HRF.out.apart HG1.out (fun y hy e => by
                injection e with e
                rcases HGO2.out y hy with q | q
                · have := (HVL.out y q).2; omega
                · omega) (fun y hy e => by injection e with e; have := HS.out y hy; have := HBW.out; omega)
              rw [List.length_append, prCss_snoc]
              exact HF2
            · rw [Hr.out]
              exact grown_trans HGF.out HG1.out (fun y hy => by injection hy with hy; right; omega)
          · skip
            go_simp
            refine hK.out _ _ (World.grownBy.trans hS (World.grownBy_alloc _ _ _)) (fun hS => ?_)
            try show wpAnyH _ _ _ _ _ _ _ (Act.put _ (some 68) _) _
            try simp only [Act.put, List.setIfInBounds_toArray, List.set_cons_zero, List.set_cons_succ]
            refine wpAnyH_ready (rs := [2]) (by kernel_rfl) (by simp) ?_
            refine AllReadyH.cons rfl (fun K hK => ?_) AllReadyH.nil
            refine step_does rfl ?_
            unfold Does
            go_simp
            go_at_call 24
            refine (HNUM.out _).mono ?_
            rintro e wn ⟨_, rfl, hbn, rfl⟩
            have HBN : Hid (Below wr.heap.size wr wn) := (((Below.refl wr.heap.size wr).drew).alloc (Nat.le_refl _) _).trans (hbn.mono (by simp))
            have HIT : Hid (∀ j u', [Value.string t.name, .slice ta t.args.length tc, .string u.name, .slice ua u.args.length uc][j]? = some u' → wn.cell? ⟨wr.heap.size, 0 + j, none⟩ = some u') := fun j u' hj => by
              rw [Nat.zero_add]
              refine (hbn.cell (p := ⟨wr.heap.size, j, none⟩) (by simp)).trans ?_
              have h0 := box1 wr.drew #[Value.string t.name, .slice ta t.args.length tc, .string u.name, .slice ua u.args.length uc] 48 j
              exact h0.trans (by simpa using hj)
            clear hbn
            refine ⟨_, rfl, ?_⟩
            refine hK.out _ _ (grown_of_below HBN.out _) (fun hS => ?_)
            try show wpAnyH _ _ _ _ _ _ _ (Act.put _ (some 61) _) _
            try simp only [Act.put, List.setIfInBounds_toArray, List.set_cons_zero, List.set_cons_succ]
            refine late_take (i := 3) (d := some 62) (v := .string (⟨#[71]⟩ ++ itoaB (l.length : Int))) rfl rfl (by kernel_rfl) (by kernel_rfl) (by kernel_rfl) hQL (by rfl) (fun w1 _ => (by go_simp)) hS ?_
            try simp only [Act.put, List.setIfInBounds_toArray, List.set_cons_zero, List.set_cons_succ]
            refine late_take (i := 4) (d := some 63) (v := .agg #[.string (⟨#[71]⟩ ++ itoaB (l.length : Int)), .slice none 0 0]) rfl rfl (by kernel_rfl) (by kernel_rfl) (by kernel_rfl) hQL (by rfl) (fun w1 _ => (by go_simp)) hS ?_
            try simp only [Act.put, List.setIfInBounds_toArray, List.set_cons_zero, List.set_cons_succ]
            refine wpAnyH_ready (rs := [10]) (by kernel_rfl) (by simp) ?_
            refine AllReadyH.cons rfl (fun K hK => ?_) AllReadyH.nil
            refine step_append_rv (S := S) (B := B) (k := 1) (off := 0) (news := [.string t.name, .slice ta t.args.length tc, .string u.name, .slice ua u.args.length uc]) (es := prCs (t, u)) Tryd.underlying37 infoEqn rfl (by decide) (by decide) rfl _ _ (by rfl) (by rfl) (by rfl) (HRV.out.keep HBN.out) HNS.out rfl HIT.out (HCR.out.keep (Keeps.all HBN.out)) (by omega) (by have := HBN.out.size; have := HBW.out; omega) ?_
            intro v2 wg hrow hgr hgo
            rw [Hr.out] at hgr
            have HRF := hid hrow
            have HGO2 : Hid (Goes wr (.slice va l.length vc) v2) := fun y hy => by
              rcases hgo with q | q
              · exact .inl (q.symm.trans hy)
              · right; rw [q] at hy; injection hy with hy; have := HBN.out.size; omega
            clear hrow hgo
            refine hK.out _ _ (World.grownBy.trans hS hgr) (fun hS => ?_)
            try show wpAnyH _ _ _ _ _ _ _ (Act.put _ (some 69) _) _
            try simp only [Act.put, List.setIfInBounds_toArray, List.set_cons_zero, List.set_cons_succ]
            refine wpAnyH_done (by kernel_rfl) ?_ _
            show wpTail _ _ _ _ _
            refine wpTail_step rfl (fun K hK => ?_)
            obtain ⟨hc, hf⟩ := bcellG hS
            go_simp
            refine hK.out _ _ ?_
            try clear hc hf
            refine wpTail_step rfl (fun K hK => ?_)
            obtain ⟨hc, hf⟩ := bcellG hS
            go_simp
            refine hK.out _ _ ?_
            try clear hc hf
            refine wpTail_nil ?_
            rename World => wF
            have z0 := ((bcellG hS).1 (w.heap.size + 1 + 1) 0 rl nR).trans re0
            have z1 := ((bcellG hS).1 (w.heap.size + 1 + 1) 1 rl nR).trans re1
            have HGF := hid (grown_trans (grown_of_below HWR.out r) hS (fun y hy => .inl hy))
            have HZF := hid hS.size
            clear hS
            go_wp2_with fail
            refine bodyPost_ret (v := .tuple #[.agg #[.string (⟨#[71]⟩ ++ itoaB (l.length : Int)), .slice none 0 0], v2]) (by simp [results, Tryd.results13, go_sem, z0, z1]; try rfl) rfl ?_
            have HG1 : Hid (wF.grownBy ((wF.setCell ⟨w.heap.size + 1 + 1, 0, none⟩ (.string (⟨#[71]⟩ ++ itoaB (l.length : Int)))).setCell ⟨w.heap.size + 1 + 1, 1, none⟩ (.slice none 0 0)) (some (w.heap.size + 1 + 1))) := (World.grownBy.trans (grown_setCell wF ⟨w.heap.size + 1 + 1, 0, none⟩ (.string (⟨#[71]⟩ ++ itoaB (l.length : Int)))) (grown_setCell _ ⟨w.heap.size + 1 + 1, 1, none⟩ (.slice none 0 0)))
            rw [HRR.out]
            refine ⟨.slice none 0 0, [], v2, rfl, D.own_nil _ _, by simp, by simp, ?_, ?_, Goes.trans (Goes.refl w _) hzw HGO2.out⟩
            · have HF2 := HRF.out.apart HG1.out (fun y hy e => by
                injection e with e
                rcases HGO2.out y hy with q | q
                · have := (HVL.out y q).2; omega
                · omega) (fun y hy e => by injection e with e; have := HS.out y hy; have := HBW.out; omega)
              rw [List.length_append, prCss_snoc]
              exact HF2
            · rw [Hr.out]
              exact grown_trans HGF.out HG1.out (fun y hy => by injection hy with hy; right; omega)
  · have HGO : Hid (R = (genVar l t u, addP l t u)) := by rw [Hid, ← HR.out]; exact Tm.gen_out l (fun q => hnn q.2.1)
    have hqn : (t.name.toList != u.name.toList) = true := by rw [bne, toList_ne hnn]; rfl
    have hq := toList_ne hnn
    clear hnn ih
    obtain ⟨rfl, tn, ta, tc, rfl⟩ := Tm.at_form ht
    obtain ⟨rfl, un, ua, uc, rfl⟩ := Tm.at_form hu
    have hW : Below w.heap.size w (((w.alloc (.cells #[.string t.name, .slice ta t.args.length tc] 28)).alloc (.cells #[.string u.name, .slice ua u.args.length uc] 28)).alloc (.cells #[.string ⟨#[]⟩, .slice none 0 0] 28)) := (((Below.refl _ _).alloc (Nat.le_refl _) _).alloc (by simp) _).alloc (by simp; omega) _
    have bt : Box (((w.alloc (.cells #[.string t.name, .slice ta t.args.length tc] 28)).alloc (.cells #[.string u.name, .slice ua u.args.length uc] 28)).alloc (.cells #[.string ⟨#[]⟩, .slice none 0 0] 28)) (w.heap.size) [.string t.name, .slice ta t.args.length tc] := by
      have := (((Box.new w [.string t.name, .slice ta t.args.length tc] 28).alloc (.cells #[.string u.name, .slice ua u.args.length uc] 28)).alloc (.cells #[.string ⟨#[]⟩, .slice none 0 0] 28))
      simpa only [World.size_alloc] using this
    have bu : Box (((w.alloc (.cells #[.string t.name, .slice ta t.args.length tc] 28)).alloc (.cells #[.string u.name, .slice ua u.args.length uc] 28)).alloc (.cells #[.string ⟨#[]⟩, .slice none 0 0] 28)) (w.heap.size + 1) [.string u.name, .slice ua u.args.length uc] := by
      have := ((Box.new (w.alloc (.cells #[.string t.name, .slice ta t.args.length tc] 28)) [.string u.name, .slice ua u.args.length uc] 28).alloc (.cells #[.string ⟨#[]⟩, .slice none 0 0] 28))
      simpa only [World.size_alloc] using this
    have rb : Box (((w.alloc (.cells #[.string t.name, .slice ta t.args.length tc] 28)).alloc (.cells #[.string u.name, .slice ua u.args.length uc] 28)).alloc (.cells #[.string ⟨#[]⟩, .slice none 0 0] 28)) (w.heap.size + 1 + 1) [.string ⟨#[]⟩, .slice none 0 0] := by
      have := (Box.new ((w.alloc (.cells #[.string t.name, .slice ta t.args.length tc] 28)).alloc (.cells #[.string u.name, .slice ua u.args.length uc] 28)) [.string ⟨#[]⟩, .slice none 0 0] 28)
      simpa only [World.size_alloc] using this
    have rf : ∀ p, (((w.alloc (.cells #[.string t.name, .slice ta t.args.length tc] 28)).alloc (.cells #[.string u.name, .slice ua u.args.length uc] 28)).alloc (.cells #[.string ⟨#[]⟩, .slice none 0 0] 28)).frozen? ⟨w.heap.size + 1 + 1, p, none⟩ = false := fun p => World.frozen?_alloc_at _ _ _ p (by simp)
    replace ht := Tm.at_keep (Keeps.all hW) ht
    replace hu := Tm.at_keep (Keeps.all hW) hu
    have et0 := bt.c0
    have et1 := bt.c1
    have lt := bt.lt
    have eu0 := bu.c0
    have eu1 := bu.c1
    have lu := bu.lt
    have re0 := rb.c0
    have rf0 := rf 0
    have re1 := rb.c1
    have rf1 := rf 1
    have rl := rb.lt
    go_enter Tryd.func13, Tryd.ntmps13
    go_wp2_with fail
    clear et0 et1 lt eu0 eu1 lu re0 rf0 re1 rf1 rl
    have Hw0 : Hid ((((w.alloc (.cells #[.string t.name, .slice ta t.args.length tc] 28)).alloc (.cells #[.string u.name, .slice ua u.args.length uc] 28)).alloc (.cells #[.string ⟨#[]⟩, .slice none 0 0] 28)).heap.size = w.heap.size + 1 + 1 + 1) := by simp [Hid]
    generalize (((w.alloc (.cells #[.string t.name, .slice ta t.args.length tc] 28)).alloc (.cells #[.string u.name, .slice ua u.args.length uc] 28)).alloc (.cells #[.string ⟨#[]⟩, .slice none 0 0] 28)) = w0 at *
    clear hq hqn
    go_loopw [8] (fun i wr => ∃ k : Nat, k ≤ l.length ∧ i = .int .i64 k ∧ Hid (∀ j (h : j < l.length), j < k → eqP l[j] t u = false) ∧ Hid (Below w0.heap.size w0 wr)) (fun i _ => l.length - (intOf i).toNat)
    case atStart => exact ⟨0, Nat.zero_le _, rfl, fun j h h' => absurd h' (by omega), Below.refl _ _⟩
    case round =>
      obtain ⟨k, hk, rfl, HK, HB⟩ := hrel
      have hb := HB.out
      replace hW := hW.trans (hb.mono hW.size)
      replace bt := bt.keep hb
      replace ht := Tm.at_keep (Keeps.all hb) ht
      replace bu := bu.keep hb
      replace hu := Tm.at_keep (Keeps.all hb) hu
      replace rf := fun p => (hb.frozen (p := ⟨_, p, none⟩) rb.lt).trans (rf p)
      replace rb := rb.keep hb
      clear hb
      have HWR := hid hW
      have hzw := hW.size
      have hkI : (0 : Int) ≤ (k : Int) := by omega
      by_cases hlt : k < l.length
      · have hne : l ≠ [] := by intro e; subst e; simp at hlt
        obtain ⟨b, off, rfl, hSb, hbl, hrr⟩ := pr_get (pr_rd (HV.out.keep HWR.out)) hne
        obtain ⟨x0, x1, y0, y1, q0, q1, q2, q3, qx, qy⟩ := hrr k hlt
        have hqx := hid qx
        have hqy := hid qy
        obtain ⟨rfl, -, xa, xc, rfl⟩ := Tm.at_form qx
        obtain ⟨rfl, -, ya, yc, rfl⟩ := Tm.at_form qy
        have q3' : wr.cell? ⟨b, off + k * 4 + 2 + 1, none⟩ = some (.slice ya l[k].2.args.length yc) := q3
        have hs1 := l2Same_any l[k].1 t
        have hs2 := l2Same_any l[k].2 u
        unfold Tells at hs1 hs2
        clear hrr qx qy
        obtain ⟨E1, HE1⟩ : ∃ E1, Hid (Tm.eqb l[k].1 t = E1) := ⟨_, hid rfl⟩
        obtain ⟨E2, HE2⟩ : ∃ E2, Hid (Tm.eqb l[k].2 u = E2) := ⟨_, hid rfl⟩
        rw [HE1.out] at hs1
        rw [HE2.out] at hs2
        have HEQ := hid (eqP_of HE1.out HE2.out)
        have HS1 := hid hs1
        have HS2 := hid hs2
        clear hs1 hs2
        cases E1 with
        | true =>
          cases E2 with
          | true =>
            have HI : Hid (idxP l t u = k) := idxP_at hk HK.out (fun _ => HEQ.out)
            have HRR : Hid (R = (.node (⟨#[71]⟩ ++ itoaB (k : Int)) [], l)) := by
              rw [Hid, HGO.out, genVar, HI.out, addP, HI.out, if_pos hlt]; rfl
            have HNUM := hid (l1Num_any (k : Int) (by omega) (by omega))
            have hzi := itoaB_size (n := (k : Int)) (by omega) (by omega)
            have g4 : ¬ 9223372036854775807 < 1 + (itoaB (k : Int)).size := by omega
            have et0 := bt.c0
            have et1 := bt.c1
            have lt := bt.lt
            have eu0 := bu.c0
            have eu1 := bu.c1
            have lu := bu.lt
            have re0 := rb.c0
            have rf0 := rf 0
            have re1 := rb.c1
            have rf1 := rf 1
            have rl := rb.lt
            go_wp2_with fail
            refine wp_region_B [fun v _ => v = .slice (some ⟨b, off, none⟩) l.length vc, fun v _ => v = .int .i64 k, fun v _ => v = .pointer (some ⟨b, off + k * 4, none⟩), fun v _ => v = .pointer (some ⟨b, off + k * 4, none⟩), fun v _ => v = .agg #[.string l[k].1.name, .slice xa l[k].1.args.length xc], fun v _ => v = .agg #[.string t.name, .slice ta t.args.length tc], fun v _ => v = .bool true, fun v _ => v = .bool true, fun v _ => v = .slice (some ⟨b, off, none⟩) l.length vc, fun v _ => v = .int .i64 k, fun v _ => v = .pointer (some ⟨b, off + k * 4, none⟩), fun v _ => v = .pointer (some ⟨b, off + k * 4 + 2, none⟩), fun v _ => v = .agg #[.string l[k].2.name, .slice ya l[k].2.args.length yc], fun v _ => v = .agg #[.string u.name, .slice ua u.args.length uc], fun v _ => v = .bool true, fun v _ => v = .bool true] _ (fun V => by simp [putAll, Act.put]; rfl) (by kernel_rfl) (by decide) (by simp) (by kernel_rfl) ?_ ?_ ?_
            · intro F hF
              simp only [List.mem_cons, List.not_mem_nil, or_false] at hF
              rcases hF with rfl | rfl | rfl | rfl | rfl | rfl | rfl | rfl | rfl | rfl | rfl | rfl | rfl | rfl | rfl | rfl
              · exact stable_eq
              · exact stable_eq
              · exact stable_eq
              · exact stable_eq
              · exact stable_eq
              · exact stable_eq
              · exact stable_eq
              · exact stable_eq
              · exact stable_eq
              · exact stable_eq
              · exact stable_eq
              · exact stable_eq
              · exact stable_eq
              · exact stable_eq
              · exact stable_eq
              · exact stable_eq
            · refine ⟨?_, ?_, ?_, ?_, ?_, ?_, ?_, ?_, ?_, ?_, ?_, ?_, ?_, ?_, ?_, ?_, trivial⟩
              · intro V w1 hbR _
                unfold Does
                go_simp
                exact ⟨Below.refl _ _, rfl⟩
              · intro V w1 hbR _
                unfold Does
                go_simp
                exact ⟨Below.refl _ _, rfl⟩
              · intro V w1 hbR ⟨f0, f1, _⟩
                replace f0 : V 0 = .slice (some ⟨b, off, none⟩) l.length vc := f0
                replace f1 : V 1 = .int .i64 k := f1
                unfold Does
                go_simp
                exact ⟨Below.refl _ _, rfl⟩
              · intro V w1 hbR ⟨f2, _⟩
                replace f2 : V 2 = .pointer (some ⟨b, off + k * 4, none⟩) := f2
                unfold Does
                go_simp
                exact ⟨Below.refl _ _, rfl⟩
              · intro V w1 hbR ⟨f3, _⟩
                replace f3 : V 3 = .pointer (some ⟨b, off + k * 4, none⟩) := f3
                obtain ⟨hc, hf⟩ := bcell hbR
                try simp only [World.size_alloc, World.size_setCell] at hc hf
                unfold Does
                go_simp
                exact ⟨Below.refl _ _, rfl⟩
              · intro V w1 hbR _
                obtain ⟨hc, hf⟩ := bcell hbR
                try simp only [World.size_alloc, World.size_setCell] at hc hf
                unfold Does
                go_simp
                exact ⟨Below.refl _ _, rfl⟩
              · intro V w1 hbR ⟨f4, f5, _⟩
                replace f4 : V 4 = .agg #[.string l[k].1.name, .slice xa l[k].1.args.length xc] := f4
                replace f5 : V 5 = .agg #[.string t.name, .slice ta t.args.length tc] := f5
                obtain ⟨hc, hf⟩ := bcell hbR
                try simp only [World.size_alloc, World.size_setCell] at hc hf
                unfold Does
                go_simp
                exact (HS1.out _ _ _ _ _ _ (Tm.at_keep (Keeps.all hbR) (Tm.at_all hqx.out)) (Tm.at_keep (Keeps.all hbR) (Tm.at_all ht))).mono (fun _ _ ⟨h1, h2⟩ => ⟨_, h1, h2, rfl⟩)
              · intro V w1 hbR ⟨f6, _, _⟩
                replace f6 : V 6 = .bool true := f6
                unfold Does
                go_simp
                exact ⟨Below.refl _ _, rfl⟩
              · intro V w1 hbR ⟨f7, _⟩
                replace f7 : V 7 = .bool true := f7
                refine .inl ⟨_, f7, fun hg => ?_, fun hg => ?_⟩
                · unfold Does
                  go_simp
                  exact ⟨Below.refl _ _, rfl⟩
                · exact absurd rfl hg
              · intro V w1 hbR ⟨f7, _⟩
                replace f7 : V 7 = .bool true := f7
                refine .inl ⟨_, f7, fun hg => ?_, fun hg => ?_⟩
                · unfold Does
                  go_simp
                  exact ⟨Below.refl _ _, rfl⟩
                · exact absurd rfl hg
              · intro V w1 hbR ⟨f8, f9, f7, _⟩
                replace f7 : V 7 = .bool true := f7
                replace f8 : V 8 = .slice (some ⟨b, off, none⟩) l.length vc := f8
                replace f9 : V 9 = .int .i64 k := f9
                refine .inl ⟨_, f7, fun hg => ?_, fun hg => ?_⟩
                · unfold Does
                  go_simp
                  exact ⟨Below.refl _ _, rfl⟩
                · exact absurd rfl hg
              · intro V w1 hbR ⟨f10, f7, _⟩
                replace f7 : V 7 = .bool true := f7
                replace f10 : V 10 = .pointer (some ⟨b, off + k * 4, none⟩) := f10
                refine .inl ⟨_, f7, fun hg => ?_, fun hg => ?_⟩
                · unfold Does
                  go_simp
                  exact ⟨Below.refl _ _, rfl⟩
                · exact absurd rfl hg
              · intro V w1 hbR ⟨f11, f7, _⟩
                replace f7 : V 7 = .bool true := f7
                replace f11 : V 11 = .pointer (some ⟨b, off + k * 4 + 2, none⟩) := f11
                refine .inl ⟨_, f7, fun hg => ?_, fun hg => ?_⟩
                · obtain ⟨hc, hf⟩ := bcell hbR
                  try simp only [World.size_alloc, World.size_setCell] at hc hf
                  unfold Does
                  go_simp
                  exact ⟨Below.refl _ _, rfl⟩
                · exact absurd rfl hg
              · intro V w1 hbR ⟨f7, _⟩
                replace f7 : V 7 = .bool true := f7
                refine .inl ⟨_, f7, fun hg => ?_, fun hg => ?_⟩
                · obtain ⟨hc, hf⟩ := bcell hbR
                  try simp only [World.size_alloc, World.size_setCell] at hc hf
                  unfold Does
                  go_simp
                  exact ⟨Below.refl _ _, rfl⟩
                · exact absurd rfl hg
              · intro V w1 hbR ⟨f12, f13, f7, _, _⟩
                replace f7 : V 7 = .bool true := f7
                replace f12 : V 12 = .agg #[.string l[k].2.name, .slice ya l[k].2.args.length yc] := f12
                replace f13 : V 13 = .agg #[.string u.name, .slice ua u.args.length uc] := f13
                refine .inl ⟨_, f7, fun hg => ?_, fun hg => ?_⟩
                · obtain ⟨hc, hf⟩ := bcell hbR
                  try simp only [World.size_alloc, World.size_setCell] at hc hf
                  unfold Does
                  go_simp
                  exact (HS2.out _ _ _ _ _ _ (Tm.at_keep (Keeps.all hbR) (Tm.at_all hqy.out)) (Tm.at_keep (Keeps.all hbR) (Tm.at_all hu))).mono (fun _ _ ⟨h1, h2⟩ => ⟨_, h1, h2, rfl⟩)
                · exact absurd rfl hg
              · intro V w1 hbR ⟨f7, f14, _⟩
                replace f7 : V 7 = .bool true := f7
                replace f14 : V 14 = .bool true := f14
                unfold Does
                go_simp
                exact ⟨Below.refl _ _, rfl⟩
            intro V w3 hbR hfR
            obtain ⟨f0, f1, f2, f3, f4, f5, f6, f7, f8, f9, f10, f11, f12, f13, f14, f15, _⟩ := hfR
            replace f0 : V 0 = .slice (some ⟨b, off, none⟩) l.length vc := f0
            replace f1 : V 1 = .int .i64 k := f1
            replace f2 : V 2 = .pointer (some ⟨b, off + k * 4, none⟩) := f2
            replace f3 : V 3 = .pointer (some ⟨b, off + k * 4, none⟩) := f3
            replace f4 : V 4 = .agg #[.string l[k].1.name, .slice xa l[k].1.args.length xc] := f4
            replace f5 : V 5 = .agg #[.string t.name, .slice ta t.args.length tc] := f5
            replace f6 : V 6 = .bool true := f6
            replace f7 : V 7 = .bool true := f7
            replace f8 : V 8 = .slice (some ⟨b, off, none⟩) l.length vc := f8
            replace f9 : V 9 = .int .i64 k := f9
            replace f10 : V 10 = .pointer (some ⟨b, off + k * 4, none⟩) := f10
            replace f11 : V 11 = .pointer (some ⟨b, off + k * 4 + 2, none⟩) := f11
            replace f12 : V 12 = .agg #[.string l[k].2.name, .slice ya l[k].2.args.length yc] := f12
            replace f13 : V 13 = .agg #[.string u.name, .slice ua u.args.length uc] := f13
            replace f14 : V 14 = .bool true := f14
            replace f15 : V 15 = .bool true := f15
            simp only [f0, f1, f2, f3, f4, f5, f6, f7, f8, f9, f10, f11, f12, f13, f14, f15]
            clear f0 f1 f2 f3 f4 f5 f6 f7 f8 f9 f10 f11 f12 f13 f14 f15
            clear et0 et1 lt eu0 eu1 lu re0 rf0 re1 rf1 rl
            have hb := hbR
            replace hW := hW.trans (hb.mono hW.size)
            replace bt := bt.keep hb
            replace ht := Tm.at_keep (Keeps.all hb) ht
            replace bu := bu.keep hb
            replace hu := Tm.at_keep (Keeps.all hb) hu
            replace rf := fun p => (hb.frozen (p := ⟨_, p, none⟩) rb.lt).trans (rf p)
            replace rb := rb.keep hb
            clear hb hbR q0 q1 q2 q3 q3'
            have et0 := bt.c0
            have et1 := bt.c1
            have lt := bt.lt
            have eu0 := bu.c0
            have eu1 := bu.c1
            have lu := bu.lt
            have re0 := rb.c0
            have rf0 := rf 0
            have re1 := rb.c1
            have rf1 := rf 1
            have rl := rb.lt
            go_wp2_with fail
            clear et0 et1 lt eu0 eu1 lu re0 rf0 re1 rf1 rl
            refine (HNUM.out _).mono ?_
            rintro e w4 ⟨_, rfl, hb, rfl⟩
            replace hW := hW.trans (hb.mono hW.size)
            replace bt := bt.keep hb
            replace ht := Tm.at_keep (Keeps.all hb) ht
            replace bu := bu.keep hb
            replace hu := Tm.at_keep (Keeps.all hb) hu
            replace rf := fun p => (hb.frozen (p := ⟨_, p, none⟩) rb.lt).trans (rf p)
            replace rb := rb.keep hb
            clear hb
            have et0 := bt.c0
            have et1 := bt.c1
            have lt := bt.lt
            have eu0 := bu.c0
            have eu1 := bu.c1
            have lu := bu.lt
            have re0 := rb.c0
            have rf0 := rf 0
            have re1 := rb.c1
            have rf1 := rf 1
            have rl := rb.lt
            go_wp2_with fail
            refine bodyPost_ret (v := .tuple #[.agg #[.string (⟨#[71]⟩ ++ itoaB (k : Int)), .slice none 0 0], .slice (some ⟨b, off, none⟩) l.length vc]) (by simp [results, Tryd.results13, go_sem, rb.c0, rb.c1]; try rfl) rfl ?_
            have HWF := hid ((hW.setCell (p := ⟨w.heap.size + 1 + 1, 0, none⟩) (by show w.heap.size ≤ w.heap.size + 1 + 1; omega) (.string (⟨#[71]⟩ ++ itoaB (k : Int)))).setCell (p := ⟨w.heap.size + 1 + 1, 1, none⟩) (by show w.heap.size ≤ w.heap.size + 1 + 1; omega) (.slice none 0 0))
            rw [HRR.out]
            exact ⟨.slice none 0 0, [], _, rfl, D.own_nil _ _, by simp, by simp, HV.out.keep HWF.out, grown_of_below HWF.out _, Goes.refl _ _⟩
          | false =>
            have HKN : Hid (∀ j (h : j < l.length), j < k + 1 → eqP l[j] t u = false) := fun j h hj => by
              by_cases hjk : j < k
              · exact HK.out j h hjk
              · obtain rfl : j = k := by omega
                exact HEQ.out
            have et0 := bt.c0
            have et1 := bt.c1
            have lt := bt.lt
            have eu0 := bu.c0
            have eu1 := bu.c1
            have lu := bu.lt
            have re0 := rb.c0
            have rf0 := rf 0
            have re1 := rb.c1
            have rf1 := rf 1
            have rl := rb.lt
            go_wp2_with fail
            refine wp_region_B [fun v _ => v = .slice (some ⟨b, off, none⟩) l.length vc, fun v _ => v = .int .i64 k, fun v _ => v = .pointer (some ⟨b, off + k * 4, none⟩), fun v _ => v = .pointer (some ⟨b, off + k * 4, none⟩), fun v _ => v = .agg #[.string l[k].1.name, .slice xa l[k].1.args.length xc], fun v _ => v = .agg #[.string t.name, .slice ta t.args.length tc], fun v _ => v = .bool true, fun v _ => v = .bool true, fun v _ => v = .slice (some ⟨b, off, none⟩) l.length vc, fun v _ => v = .int .i64 k, fun v _ => v = .pointer (some ⟨b, off + k * 4, none⟩), fun v _ => v = .pointer (some ⟨b, off + k * 4 + 2, none⟩), fun v _ => v = .agg #[.string l[k].2.name, .slice ya l[k].2.args.length yc], fun v _ => v = .agg #[.string u.name, .slice ua u.args.length uc], fun v _ => v = .bool false, fun v _ => v = .bool false] _ (fun V => by simp [putAll, Act.put]; rfl) (by kernel_rfl) (by decide) (by simp) (by kernel_rfl) ?_ ?_ ?_
            · intro F hF
              simp only [List.mem_cons, List.not_mem_nil, or_false] at hF
              rcases hF with rfl | rfl | rfl | rfl | rfl | rfl | rfl | rfl | rfl | rfl | rfl | rfl | rfl | rfl | rfl | rfl
              · exact stable_eq
              · exact stable_eq
              · exact stable_eq
              · exact stable_eq
              · exact stable_eq
              · exact stable_eq
              · exact stable_eq
              · exact stable_eq
              · exact stable_eq
              · exact stable_eq
              · exact stable_eq
              · exact stable_eq
              · exact stable_eq
              · exact stable_eq
              · exact stable_eq
              · exact stable_eq
            · refine ⟨?_, ?_, ?_, ?_, ?_, ?_, ?_, ?_, ?_, ?_, ?_, ?_, ?_, ?_, ?_, ?_, trivial⟩
              · intro V w1 hbR _
                unfold Does
                go_simp
                exact ⟨Below.refl _ _, rfl⟩
              · intro V w1 hbR _
                unfold Does
                go_simp
                exact ⟨Below.refl _ _, rfl⟩
              · intro V w1 hbR ⟨f0, f1, _⟩
                replace f0 : V 0 = .slice (some ⟨b, off, none⟩) l.length vc := f0
                replace f1 : V 1 = .int .i64 k := f1
                unfold Does
                go_simp
                exact ⟨Below.refl _ _, rfl⟩
              · intro V w1 hbR ⟨f2, _⟩
                replace f2 : V 2 = .pointer (some ⟨b, off + k * 4, none⟩) := f2
                unfold Does
                go_simp
                exact ⟨Below.refl _ _, rfl⟩
              · intro V w1 hbR ⟨f3, _⟩
                replace f3 : V 3 = .pointer (some ⟨b, off + k * 4, none⟩) := f3
                obtain ⟨hc, hf⟩ := bcell hbR
                try simp only [World.size_alloc, World.size_setCell] at hc hf
                unfold Does
                go_simp
                exact ⟨Below.refl _ _, rfl⟩
              · intro V w1 hbR _
                obtain ⟨hc, hf⟩ := bcell hbR
                try simp only [World.size_alloc, World.size_setCell] at hc hf
                unfold Does
                go_simp
                exact ⟨Below.refl _ _, rfl⟩
              · intro V w1 hbR ⟨f4, f5, _⟩
                replace f4 : V 4 = .agg #[.string l[k].1.name, .slice xa l[k].1.args.length xc] := f4
                replace f5 : V 5 = .agg #[.string t.name, .slice ta t.args.length tc] := f5
                obtain ⟨hc, hf⟩ := bcell hbR
                try simp only [World.size_alloc, World.size_setCell] at hc hf
                unfold Does
                go_simp
                exact (HS1.out _ _ _ _ _ _ (Tm.at_keep (Keeps.all hbR) (Tm.at_all hqx.out)) (Tm.at_keep (Keeps.all hbR) (Tm.at_all ht))).mono (fun _ _ ⟨h1, h2⟩ => ⟨_, h1, h2, rfl⟩)
              · intro V w1 hbR ⟨f6, _, _⟩
                replace f6 : V 6 = .bool true := f6
                unfold Does
                go_simp
                exact ⟨Below.refl _ _, rfl⟩
              · intro V w1 hbR ⟨f7, _⟩
                replace f7 : V 7 = .bool true := f7
                refine .inl ⟨_, f7, fun hg => ?_, fun hg => ?_⟩
                · unfold Does
                  go_simp
                  exact ⟨Below.refl _ _, rfl⟩
                · exact absurd rfl hg
              · intro V w1 hbR ⟨f7, _⟩
                replace f7 : V 7 = .bool true := f7
                refine .inl ⟨_, f7, fun hg => ?_, fun hg => ?_⟩
                · unfold Does
                  go_simp
                  exact ⟨Below.refl _ _, rfl⟩
                · exact absurd rfl hg
              · intro V w1 hbR ⟨f8, f9, f7, _⟩
                replace f7 : V 7 = .bool true := f7
                replace f8 : V 8 = .slice (some ⟨b, off, none⟩) l.length vc := f8
                replace f9 : V 9 = .int .i64 k := f9
                refine .inl ⟨_, f7, fun hg => ?_, fun hg => ?_⟩
                · unfold Does
                  go_simp
                  exact ⟨Below.refl _ _, rfl⟩
                · exact absurd rfl hg
              · intro V w1 hbR ⟨f10, f7, _⟩
                replace f7 : V 7 = .bool true := f7
                replace f10 : V 10 = .pointer (some ⟨b, off + k * 4, none⟩) := f10
                refine .inl ⟨_, f7, fun hg => ?_, fun hg => ?_⟩
                · unfold Does
                  go_simp
                  exact ⟨Below.refl _ _, rfl⟩
                · exact absurd rfl hg
              · intro V w1 hbR ⟨f11, f7, _⟩
                replace f7 : V 7 = .bool true := f7
                replace f11 : V 11 = .pointer (some ⟨b, off + k * 4 + 2, none⟩) := f11
                refine .inl ⟨_, f7, fun hg => ?_, fun hg => ?_⟩
                · obtain ⟨hc, hf⟩ := bcell hbR
                  try simp only [World.size_alloc, World.size_setCell] at hc hf
                  unfold Does
                  go_simp
                  exact ⟨Below.refl _ _, rfl⟩
                · exact absurd rfl hg
              · intro V w1 hbR ⟨f7, _⟩
                replace f7 : V 7 = .bool true := f7
                refine .inl ⟨_, f7, fun hg => ?_, fun hg => ?_⟩
                · obtain ⟨hc, hf⟩ := bcell hbR
                  try simp only [World.size_alloc, World.size_setCell] at hc hf
                  unfold Does
                  go_simp
                  exact ⟨Below.refl _ _, rfl⟩
                · exact absurd rfl hg
              · intro V w1 hbR ⟨f12, f13, f7, _, _⟩
                replace f7 : V 7 = .bool true := f7
                replace f12 : V 12 = .agg #[.string l[k].2.name, .slice ya l[k].2.args.length yc] := f12
                replace f13 : V 13 = .agg #[.string u.name, .slice ua u.args.length uc] := f13
                refine .inl ⟨_, f7, fun hg => ?_, fun hg => ?_⟩
                · obtain ⟨hc, hf⟩ := bcell hbR
                  try simp only [World.size_alloc, World.size_setCell] at hc hf
                  unfold Does
                  go_simp
                  exact (HS2.out _ _ _ _ _ _ (Tm.at_keep (Keeps.all hbR) (Tm.at_all hqy.out)) (Tm.at_keep (Keeps.all hbR) (Tm.at_all hu))).mono (fun _ _ ⟨h1, h2⟩ => ⟨_, h1, h2, rfl⟩)
                · exact absurd rfl hg
              · intro V w1 hbR ⟨f7, f14, _⟩
                replace f7 : V 7 = .bool true := f7
                replace f14 : V 14 = .bool false := f14
                unfold Does
                go_simp
                exact ⟨Below.refl _ _, rfl⟩
            intro V w3 hbR hfR
            obtain ⟨f0, f1, f2, f3, f4, f5, f6, f7, f8, f9, f10, f11, f12, f13, f14, f15, _⟩ := hfR
            replace f0 : V 0 = .slice (some ⟨b, off, none⟩) l.length vc := f0
            replace f1 : V 1 = .int .i64 k := f1
            replace f2 : V 2 = .pointer (some ⟨b, off + k * 4, none⟩) := f2
            replace f3 : V 3 = .pointer (some ⟨b, off + k * 4, none⟩) := f3
            replace f4 : V 4 = .agg #[.string l[k].1.name, .slice xa l[k].1.args.length xc] := f4
            replace f5 : V 5 = .agg #[.string t.name, .slice ta t.args.length tc] := f5
            replace f6 : V 6 = .bool true := f6
            replace f7 : V 7 = .bool true := f7
            replace f8 : V 8 = .slice (some ⟨b, off, none⟩) l.length vc := f8
            replace f9 : V 9 = .int .i64 k := f9
            replace f10 : V 10 = .pointer (some ⟨b, off + k * 4, none⟩) := f10
            replace f11 : V 11 = .pointer (some ⟨b, off + k * 4 + 2, none⟩) := f11
            replace f12 : V 12 = .agg #[.string l[k].2.name, .slice ya l[k].2.args.length yc] := f12
            replace f13 : V 13 = .agg #[.string u.name, .slice ua u.args.length uc] := f13
            replace f14 : V 14 = .bool false := f14
            replace f15 : V 15 = .bool false := f15
            simp only [f0, f1, f2, f3, f4, f5, f6, f7, f8, f9, f10, f11, f12, f13, f14, f15]
            clear f0 f1 f2 f3 f4 f5 f6 f7 f8 f9 f10 f11 f12 f13 f14 f15
            clear et0 et1 lt eu0 eu1 lu re0 rf0 re1 rf1 rl
            have HBN := hid (HB.out.trans (hbR.mono HB.out.size))
            go_wp2_with fail
            go_roundw
            case rel => exact ⟨k + 1, by omega, by go_num, HKN, HBN⟩
            case measure => simp [intOf]; omega
        | false =>
          have HKN : Hid (∀ j (h : j < l.length), j < k + 1 → eqP l[j] t u = false) := fun j h hj => by
            by_cases hjk : j < k
            · exact HK.out j h hjk
            · obtain rfl : j = k := by omega
              rw [HEQ.out]; rfl
          have et0 := bt.c0
          have et1 := bt.c1
          have lt := bt.lt
          have eu0 := bu.c0
          have eu1 := bu.c1
          have lu := bu.lt
          have re0 := rb.c0
          have rf0 := rf 0
          have re1 := rb.c1
          have rf1 := rf 1
          have rl := rb.lt
          go_wp2_with fail
          refine wp_region_B [fun v _ => v = .slice (some ⟨b, off, none⟩) l.length vc, fun v _ => v = .int .i64 k, fun v _ => v = .pointer (some ⟨b, off + k * 4, none⟩), fun v _ => v = .pointer (some ⟨b, off + k * 4, none⟩), fun v _ => v = .agg #[.string l[k].1.name, .slice xa l[k].1.args.length xc], fun v _ => v = .agg #[.string t.name, .slice ta t.args.length tc], fun v _ => v = .bool false, fun v _ => v = .bool false, fun v _ => v = undef, fun v _ => v = undef, fun v _ => v = undef, fun v _ => v = undef, fun v _ => v = undef, fun v _ => v = undef, fun v _ => v = undef, fun v _ => v = .bool false] _ (fun V => by simp [putAll, Act.put]; rfl) (by kernel_rfl) (by decide) (by simp) (by kernel_rfl) ?_ ?_ ?_
          · intro F hF
            simp only [List.mem_cons, List.not_mem_nil, or_false] at hF
            rcases hF with rfl | rfl | rfl | rfl | rfl | rfl | rfl | rfl | rfl | rfl | rfl | rfl | rfl | rfl | rfl | rfl
            · exact stable_eq
            · exact stable_eq
            · exact stable_eq
            · exact stable_eq
            · exact stable_eq
            · exact stable_eq
            · exact stable_eq
            · exact stable_eq
            · exact stable_eq
            · exact stable_eq
            · exact stable_eq
            · exact stable_eq
            · exact stable_eq
            · exact stable_eq
            · exact stable_eq
            · exact stable_eq
          · refine ⟨?_, ?_, ?_, ?_, ?_, ?_, ?_, ?_, ?_, ?_, ?_, ?_, ?_, ?_, ?_, ?_, trivial⟩
            · intro V w1 hbR _
              unfold Does
              go_simp
              exact ⟨Below.refl _ _, rfl⟩
            · intro V w1 hbR _
              unfold Does
              go_simp
              exact ⟨Below.refl _ _, rfl⟩
            · intro V w1 hbR ⟨f0, f1, _⟩
              replace f0 : V 0 = .slice (some ⟨b, off, none⟩) l.length vc := f0
              replace f1 : V 1 = .int .i64 k := f1
              unfold Does
              go_simp
              exact ⟨Below.refl _ _, rfl⟩
            · intro V w1 hbR ⟨f2, _⟩
              replace f2 : V 2 = .pointer (some ⟨b, off + k * 4, none⟩) := f2
              unfold Does
              go_simp
              exact ⟨Below.refl _ _, rfl⟩
            · intro V w1 hbR ⟨f3, _⟩
              replace f3 : V 3 = .pointer (some ⟨b, off + k * 4, none⟩) := f3
              obtain ⟨hc, hf⟩ := bcell hbR
              try simp only [World.size_alloc, World.size_setCell] at hc hf
              unfold Does
              go_simp
              exact ⟨Below.refl _ _, rfl⟩
            · intro V w1 hbR _
              obtain ⟨hc, hf⟩ := bcell hbR
              try simp only [World.size_alloc, World.size_setCell] at hc hf
              unfold Does
              go_simp
              exact ⟨Below.refl _ _, rfl⟩
            · intro V w1 hbR ⟨f4, f5, _⟩
              replace f4 : V 4 = .agg #[.string l[k].1.name, .slice xa l[k].1.args.length xc] := f4
              replace f5 : V 5 = .agg #[.string t.name, .slice ta t.args.length tc] := f5
              obtain ⟨hc, hf⟩ := bcell hbR
              try simp only [World.size_alloc, World.size_setCell] at hc hf
              unfold Does
              go_simp
              exact (HS1.out _ _ _ _ _ _ (Tm.at_keep (Keeps.all hbR) (Tm.at_all hqx.out)) (Tm.at_keep (Keeps.all hbR) (Tm.at_all ht))).mono (fun _ _ ⟨h1, h2⟩ => ⟨_, h1, h2, rfl⟩)
            · intro V w1 hbR ⟨f6, _, _⟩
              replace f6 : V 6 = .bool false := f6
              unfold Does
              go_simp
              exact ⟨Below.refl _ _, rfl⟩
            · intro V w1 hbR ⟨f7, _⟩
              replace f7 : V 7 = .bool false := f7
              refine .inl ⟨_, f7, fun hg => ?_, fun hg => ?_⟩
              · exact absurd hg (by decide)
              · rfl
            · intro V w1 hbR ⟨f7, _⟩
              replace f7 : V 7 = .bool false := f7
              refine .inl ⟨_, f7, fun hg => ?_, fun hg => ?_⟩
              · exact absurd hg (by decide)
              · rfl
            · intro V w1 hbR ⟨f8, f9, f7, _⟩
              replace f7 : V 7 = .bool false := f7
              replace f8 : V 8 = undef := f8
              replace f9 : V 9 = undef := f9
              refine .inl ⟨_, f7, fun hg => ?_, fun hg => ?_⟩
              · exact absurd hg (by decide)
              · rfl
            · intro V w1 hbR ⟨f10, f7, _⟩
              replace f7 : V 7 = .bool false := f7
              replace f10 : V 10 = undef := f10
              refine .inl ⟨_, f7, fun hg => ?_, fun hg => ?_⟩
              · exact absurd hg (by decide)
              · rfl
            · intro V w1 hbR ⟨f11, f7, _⟩
              replace f7 : V 7 = .bool false := f7
              replace f11 : V 11 = undef := f11
              refine .inl ⟨_, f7, fun hg => ?_, fun hg => ?_⟩
              · exact absurd hg (by decide)
              · rfl
            · intro V w1 hbR ⟨f7, _⟩
              replace f7 : V 7 = .bool false := f7
              refine .inl ⟨_, f7, fun hg => ?_, fun hg => ?_⟩
              · exact absurd hg (by decide)
              · rfl
            · intro V w1 hbR ⟨f12, f13, f7, _, _⟩
              replace f7 : V 7 = .bool false := f7
              replace f12 : V 12 = undef := f12
              replace f13 : V 13 = undef := f13
              refine .inl ⟨_, f7, fun hg => ?_, fun hg => ?_⟩
              · exact absurd hg (by decide)
              · rfl
            · intro V w1 hbR ⟨f7, f14, _⟩
              replace f7 : V 7 = .bool false := f7
              replace f14 : V 14 = undef := f14
              unfold Does
              go_simp
              exact ⟨Below.refl _ _, rfl⟩
          intro V w3 hbR hfR
          obtain ⟨f0, f1, f2, f3, f4, f5, f6, f7, f8, f9, f10, f11, f12, f13, f14, f15, _⟩ := hfR
          replace f0 : V 0 = .slice (some ⟨b, off, none⟩) l.length vc := f0
          replace f1 : V 1 = .int .i64 k := f1
          replace f2 : V 2 = .pointer (some ⟨b, off + k * 4, none⟩) := f2
          replace f3 : V 3 = .pointer (some ⟨b, off + k * 4, none⟩) := f3
          replace f4 : V 4 = .agg #[.string l[k].1.name, .slice xa l[k].1.args.length xc] := f4
          replace f5 : V 5 = .agg #[.string t.name, .slice ta t.args.length tc] := f5
          replace f6 : V 6 = .bool false := f6
          replace f7 : V 7 = .bool false := f7
          replace f8 : V 8 = undef := f8
          replace f9 : V 9 = undef := f9
          replace f10 : V 10 = undef := f10
          replace f11 : V 11 = undef := f11
          replace f12 : V 12 = undef := f12
          replace f13 : V 13 = undef := f13
          replace f14 : V 14 = undef := f14
          replace f15 : V 15 = .bool false := f15
          simp only [f0, f1, f2, f3, f4, f5, f6, f7, f8, f9, f10, f11, f12, f13, f14, f15]
          clear f0 f1 f2 f3 f4 f5 f6 f7 f8 f9 f10 f11 f12 f13 f14 f15
          clear et0 et1 lt eu0 eu1 lu re0 rf0 re1 rf1 rl
          have HBN := hid (HB.out.trans (hbR.mono HB.out.size))
          go_wp2_with fail
          go_roundw
          case rel => exact ⟨k + 1, by omega, by go_num, HKN, HBN⟩
          case measure => simp [intOf]; omega
      · obtain rfl : k = l.length := by omega
        have HI : Hid (idxP l t u = l.length) := idxP_end HK.out
        have HRR : Hid (R = (.node (⟨#[71]⟩ ++ itoaB (l.length : Int)) [], l ++ [(t, u)])) := by
          rw [Hid, HGO.out, genVar, HI.out, addP, HI.out, if_neg (by omega)]; rfl
        have HNUM := hid (l1Num_any (l.length : Int) (by omega) (by omega))
        have hzi := itoaB_size (n := (l.length : Int)) (by omega) (by omega)
        have g4 : ¬ 9223372036854775807 < 1 + (itoaB (l.length : Int)).size := by omega
        obtain ⟨r, Hr⟩ : ∃ r, Hid ((Value.slice va l.length vc).ownBlock = r) := ⟨_, hid rfl⟩
        have HL : Hid (∀ y, r = some y → B ≤ y ∧ y < w.heap.size) := fun y hy => HVL.out y (Hr.out.trans hy)
        have nR : ¬ r = some (w.heap.size + 1 + 1) := fun e => by have := HL.out _ e; omega
        have nT : ¬ r = some w.heap.size := fun e => by have := HL.out _ e; omega
        have nU : ¬ r = some (w.heap.size + 1) := fun e => by have := HL.out _ e; omega
        have HRV := hid (HV.out.keep HWR.out)
        have HNS : Hid (∀ y, (Value.slice va l.length vc).ownBlock = some y → ¬ S y) := fun y hy q => by have h1 := (HVL.out y hy).1; have h2 := HS.out y q; omega
        have HCR : Hid (CellsRd S wr [.string t.name, .slice ta t.args.length tc, .string u.name, .slice ua u.args.length uc] (prCs (t, u))) := ⟨ht.1, ht.2, hu.1, hu.2, trivial⟩
        have HBW := hid hB
        have hltn : ¬ (l.length : Int) < (l.length : Int) := by omega
        have et0 := bt.c0
        have et1 := bt.c1
        have lt := bt.lt
        have eu0 := bu.c0
        have eu1 := bu.c1
        have lu := bu.lt
        have re0 := rb.c0
        have rf0 := rf 0
        have re1 := rb.c1
        have rf1 := rf 1
        have rl := rb.lt
        go_wp2_with fail
        refine region_late (l := [_, _, _, _, _, _, _, _, _, _, _]) (tl := [_, _]) (S := fun w1 => (wr).grownBy w1 (r)) (n := 11) rfl rfl (by kernel_rfl) (by kernel_rfl) (grown_of_below ((Below.refl _ _).drew) _) (fun hQL hS => ?_)
        refine late_take (i := 0) (d := some 59) (v := .slice va l.length vc) rfl rfl (by kernel_rfl) (by kernel_rfl) (by kernel_rfl) hQL (by rfl) (fun w1 _ => (by go_simp)) hS ?_
        try simp only [Act.put, List.setIfInBounds_toArray, List.set_cons_zero, List.set_cons_succ]
        refine late_take (i := 1) (d := some 60) (v := .int .i64 l.length) rfl rfl (by kernel_rfl) (by kernel_rfl) (by kernel_rfl) hQL (by rfl) (fun w1 _ => (by go_simp)) hS ?_
        try simp only [Act.put, List.setIfInBounds_toArray, List.set_cons_zero, List.set_cons_succ]
        refine late_take (i := 5) (d := some 64) (v := .slice va l.length vc) rfl rfl (by kernel_rfl) (by kernel_rfl) (by kernel_rfl) hQL (by rfl) (fun w1 _ => (by go_simp)) hS ?_
        try simp only [Act.put, List.setIfInBounds_toArray, List.set_cons_zero, List.set_cons_succ]
        refine late_take (i := 6) (d := some 65) (v := .agg #[.string t.name, .slice ta t.args.length tc]) rfl rfl (by kernel_rfl) (by kernel_rfl) (by kernel_rfl) hQL (by rfl) (fun w1 hS1 => (by obtain ⟨hc, hf⟩ := bcellG hS1; go_simp)) hS ?_
        try simp only [Act.put, List.setIfInBounds_toArray, List.set_cons_zero, List.set_cons_succ]
        refine late_take (i := 7) (d := some 66) (v := .agg #[.string u.name, .slice ua u.args.length uc]) rfl rfl (by kernel_rfl) (by kernel_rfl) (by kernel_rfl) hQL (by rfl) (fun w1 hS1 => (by obtain ⟨hc, hf⟩ := bcellG hS1; go_simp)) hS ?_
        try simp only [Act.put, List.setIfInBounds_toArray, List.set_cons_zero, List.set_cons_succ]
        refine late_take (i := 8) (d := some 67) (v := .agg #[.string t.name, .slice ta t.args.length tc, .string u.name, .slice ua u.args.length uc]) rfl rfl (by kernel_rfl) (by kernel_rfl) (by kernel_rfl) hQL (by rfl) (fun w1 _ => (by go_simp)) hS ?_
        try simp only [Act.put, List.setIfInBounds_toArray, List.set_cons_zero, List.set_cons_succ]
        refine wpAnyH_ready (rs := [2, 9]) (by kernel_rfl) (by simp) ?_
        refine AllReadyH.cons rfl (fun K hK => ?_) (AllReadyH.cons rfl (fun K hK => ?_) AllReadyH.nil)
        · skip
          refine step_does rfl ?_
          unfold Does
          go_simp
          go_at_call 24
          refine (HNUM.out _).mono ?_
          rintro e wn ⟨_, rfl, hbn, rfl⟩
          have HBN : Hid (Below wr.heap.size wr wn) := ((Below.refl _ _).drew).trans (hbn.mono (Nat.le_refl _))
          clear hbn
          refine ⟨_, rfl, ?_⟩
          refine hK.out _ _ (grown_of_below HBN.out _) (fun hS => ?_)
          try show wpAnyH _ _ _ _ _ _ _ (Act.put _ (some 61) _) _
          try simp only [Act.put, List.setIfInBounds_toArray, List.set_cons_zero, List.set_cons_succ]
          refine late_take (i := 3) (d := some 62) (v := .string (⟨#[71]⟩ ++ itoaB (l.length : Int))) rfl rfl (by kernel_rfl) (by kernel_rfl) (by kernel_rfl) hQL (by rfl) (fun w1 _ => (by go_simp)) hS ?_
          try simp only [Act.put, List.setIfInBounds_toArray, List.set_cons_zero, List.set_cons_succ]
          refine late_take (i := 4) (d := some 63) (v := .agg #[.string (⟨#[71]⟩ ++ itoaB (l.length : Int)), .slice none 0 0]) rfl rfl (by kernel_rfl) (by kernel_rfl) (by kernel_rfl) hQL (by rfl) (fun w1 _ => (by go_simp)) hS ?_
          try simp only [Act.put, List.setIfInBounds_toArray, List.set_cons_zero, List.set_cons_succ]
          refine wpAnyH_ready (rs := [9]) (by kernel_rfl) (by simp) ?_
          refine AllReadyH.cons rfl (fun K hK => ?_) AllReadyH.nil
          go_simp
          refine hK.out _ _ (World.grownBy.trans hS (World.grownBy_alloc _ _ _)) (fun hS => ?_)
          try show wpAnyH _ _ _ _ _ _ _ (Act.put _ (some 68) _) _
          try simp only [Act.put, List.setIfInBounds_toArray, List.set_cons_zero, List.set_cons_succ]
          refine wpAnyH_ready (rs := [10]) (by kernel_rfl) (by simp) ?_
          refine AllReadyH.cons rfl (fun K hK => ?_) AllReadyH.nil
          refine step_append_rv (S := S) (B := B) (k := 1) (off := 0) (news := [.string t.name, .slice ta t.args.length tc, .string u.name, .slice ua u.args.length uc]) (es := prCs (t, u)) Tryd.underlying37 infoEqn rfl (by decide) (by decide) rfl _ _ (by rfl) (by rfl) (by rfl) (HRV.out.keep (HBN.out.alloc HBN.out.size _)) HNS.out rfl (by intro j u hj; rw [Nat.zero_add, box1]; simpa using hj) (HCR.out.keep (Keeps.all (HBN.out.alloc HBN.out.size _))) (by omega) (by rw [World.size_alloc]; have := HBN.out.size; have := HBW.out; omega) ?_
          intro v2 wg hrow hgr hgo
          rw [Hr.out] at hgr
          have HRF := hid hrow
          have HGO2 : Hid (Goes wr (.slice va l.length vc) v2) := fun y hy => by
            rcases hgo with q | q
            · exact .inl (q.symm.trans hy)
            · right; rw [q] at hy; injection hy with hy; rw [World.size_alloc] at hy; have := HBN.out.size; omega
          clear hrow hgo
          refine hK.out _ _ (World.grownBy.trans hS hgr) (fun hS => ?_)
          try show wpAnyH _ _ _ _ _ _ _ (Act.put _ (some 69) _) _
          try simp only [Act.put, List.setIfInBounds_toArray, List.set_cons_zero, List.set_cons_succ]
          refine wpAnyH_done (by kernel_rfl) ?_ _
          show wpTail _ _ _ _ _
          refine wpTail_step rfl (fun K hK => ?_)
          obtain ⟨hc, hf⟩ := bcellG hS
          go_simp
          refine hK.out _ _ ?_
          try clear hc hf
          refine wpTail_step rfl (fun K hK => ?_)
          obtain ⟨hc, hf⟩ := bcellG hS
          go_simp
          refine hK.out _ _ ?_
          try clear hc hf
          refine wpTail_nil ?_
          rename World => wF
          have z0 := ((bcellG hS).1 (w.heap.size + 1 + 1) 0 rl nR).trans re0
          have z1 := ((bcellG hS).1 (w.heap.size + 1 + 1) 1 rl nR).trans re1
          have HGF := hid (grown_trans (grown_of_below HWR.out r) hS (fun y hy => .inl hy))
          have HZF := hid hS.size
          clear hS
          go_wp2_with fail
          refine bodyPost_ret (v := .tuple #[.agg #[.string (⟨#[71]⟩ ++ itoaB (l.length : Int)), .slice none 0 0], v2]) (by simp [results, Tryd.results13, go_sem, z0, z1]; try rfl) rfl ?_
          have HG1 : Hid (wF.grownBy ((wF.setCell ⟨w.heap.size + 1 + 1, 0, none⟩ (.string (⟨#[71]⟩ ++ itoaB (l.length : Int)))).setCell ⟨w.heap.size + 1 + 1, 1, none⟩ (.slice none 0 0)) (some (w.heap.size + 1 + 1))) := (World.grownBy.trans (grown_setCell wF ⟨w.heap.size + 1 + 1, 0, none⟩ (.string (⟨#[71]⟩ ++ itoaB (l.length : Int)))) (grown_setCell _ ⟨w.heap.size + 1 + 1, 1, none⟩ (.slice none 0 0)))
          rw [HRR.out]
          refine ⟨.slice none 0 0, [], v2, rfl, D.own_nil _ _, by simp, by simp, ?_, ?_, Goes.trans (Goes.refl w _) hzw HGO2.out⟩
          · have HF2 := HRF.out.apart HG1.out (fun y hy e => by
              injection e with e
              rcases HGO2.out y hy with q | q
              · have := (HVL.out y q).2; omega
              · omega) (fun y hy e => by injection e with e; have := HS.out y hy; have := HBW.out; omega)
            rw [List.length_append, prCss_snoc]
            exact HF2
          · rw [Hr.out]
            exact grown_trans HGF.out HG1.out (fun y hy => by injection hy with hy; right; omega)
        · skip
          go_simp
          refine hK.out _ _ (World.grownBy.trans hS (World.grownBy_alloc _ _ _)) (fun hS => ?_)
          try show wpAnyH _ _ _ _ _ _ _ (Act.put _ (some 68) _) _
          try simp only [Act.put, List.setIfInBounds_toArray, List.set_cons_zero, List.set_cons_succ]
          refine wpAnyH_ready (rs := [2]) (by kernel_rfl) (by simp) ?_
          refine AllReadyH.cons rfl (fun K hK => ?_) AllReadyH.nil
          refine step_does rfl ?_
          unfold Does
          go_simp
          go_at_call 24
          refine (HNUM.out _).mono ?_
          rintro e wn ⟨_, rfl, hbn, rfl⟩
          have HBN : Hid (Below wr.heap.size wr wn) := (((Below.refl wr.heap.size wr).drew).alloc (Nat.le_refl _) _).trans (hbn.mono (by simp))
          have HIT : Hid (∀ j u', [Value.string t.name, .slice ta t.args.length tc, .string u.name, .slice ua u.args.length uc][j]? = some u' → wn.cell? ⟨wr.heap.size, 0 + j, none⟩ = some u') := fun j u' hj => by
            rw [Nat.zero_add]
            refine (hbn.cell (p := ⟨wr.heap.size, j, none⟩) (by simp)).trans ?_
            have h0 := box1 wr.drew #[Value.string t.name, .slice ta t.args.length tc, .string u.name, .slice ua u.args.length uc] 48 j
            exact h0.trans (by simpa using hj)
          clear hbn
          refine ⟨_, rfl, ?_⟩
          refine hK.out _ _ (grown_of_below HBN.out _) (fun hS => ?_)
          try show wpAnyH _ _ _ _ _ _ _ (Act.put _ (some 61) _) _
          try simp only [Act.put, List.setIfInBounds_toArray, List.set_cons_zero, List.set_cons_succ]
          refine late_take (i := 3) (d := some 62) (v := .string (⟨#[71]⟩ ++ itoaB (l.length : Int))) rfl rfl (by kernel_rfl) (by kernel_rfl) (by kernel_rfl) hQL (by rfl) (fun w1 _ => (by go_simp)) hS ?_
          try simp only [Act.put, List.setIfInBounds_toArray, List.set_cons_zero, List.set_cons_succ]
          refine late_take (i := 4) (d := some 63) (v := .agg #[.string (⟨#[71]⟩ ++ itoaB (l.length : Int)), .slice none 0 0]) rfl rfl (by kernel_rfl) (by kernel_rfl) (by kernel_rfl) hQL (by rfl) (fun w1 _ => (by go_simp)) hS ?_
          try simp only [Act.put, List.setIfInBounds_toArray, List.set_cons_zero, List.set_cons_succ]
          refine wpAnyH_ready (rs := [10]) (by kernel_rfl) (by simp) ?_
          refine AllReadyH.cons rfl (fun K hK => ?_) AllReadyH.nil
          refine step_append_rv (S := S) (B := B) (k := 1) (off := 0) (news := [.string t.name, .slice ta t.args.length tc, .string u.name, .slice ua u.args.length uc]) (es := prCs (t, u)) Tryd.underlying37 infoEqn rfl (by decide) (by decide) rfl _ _ (by rfl) (by rfl) (by rfl) (HRV.out.keep HBN.out) HNS.out rfl HIT.out (HCR.out.keep (Keeps.all HBN.out)) (by omega) (by have := HBN.out.size; have := HBW.out; omega) ?_
          intro v2 wg hrow hgr hgo
          rw [Hr.out] at hgr
          have HRF := hid hrow
          have HGO2 : Hid (Goes wr (.slice va l.length vc) v2) := fun y hy => by
            rcases hgo with q | q
            · exact .inl (q.symm.trans hy)
            · right; rw [q] at hy; injection hy with hy; have := HBN.out.size; omega
          clear hrow hgo
          refine hK.out _ _ (World.grownBy.trans hS hgr) (fun hS => ?_)
          try show wpAnyH _ _ _ _ _ _ _ (Act.put _ (some 69) _) _
          try simp only [Act.put, List.setIfInBounds_toArray, List.set_cons_zero, List.set_cons_succ]
          refine wpAnyH_done (by kernel_rfl) ?_ _
          show wpTail _ _ _ _ _
          refine wpTail_step rfl (fun K hK => ?_)
          obtain ⟨hc, hf⟩ := bcellG hS
          go_simp
          refine hK.out _ _ ?_
          try clear hc hf
          refine wpTail_step rfl (fun K hK => ?_)
          obtain ⟨hc, hf⟩ := bcellG hS
          go_simp
          refine hK.out _ _ ?_
          try clear hc hf
          refine wpTail_nil ?_
          rename World => wF
          have z0 := ((bcellG hS).1 (w.heap.size + 1 + 1) 0 rl nR).trans re0
          have z1 := ((bcellG hS).1 (w.heap.size + 1 + 1) 1 rl nR).trans re1
          have HGF := hid (grown_trans (grown_of_below HWR.out r) hS (fun y hy => .inl hy))
          have HZF := hid hS.size
          clear hS
          go_wp2_with fail
          refine bodyPost_ret (v := .tuple #[.agg #[.string (⟨#[71]⟩ ++ itoaB (l.length : Int)), .slice none 0 0], v2]) (by simp [results, Tryd.results13, go_sem, z0, z1]; try rfl) rfl ?_
          have HG1 : Hid (wF.grownBy ((wF.setCell ⟨w.heap.size + 1 + 1, 0, none⟩ (.string (⟨#[71]⟩ ++ itoaB (l.length : Int)))).setCell ⟨w.heap.size + 1 + 1, 1, none⟩ (.slice none 0 0)) (some (w.heap.size + 1 + 1))) := (World.grownBy.trans (grown_setCell wF ⟨w.heap.size + 1 + 1, 0, none⟩ (.string (⟨#[71]⟩ ++ itoaB (l.length : Int)))) (grown_setCell _ ⟨w.heap.size + 1 + 1, 1, none⟩ (.slice none 0 0)))
          rw [HRR.out]
          refine ⟨.slice none 0 0, [], v2, rfl, D.own_nil _ _, by simp, by simp, ?_, ?_, Goes.trans (Goes.refl w _) hzw HGO2.out⟩
          · have HF2 := HRF.out.apart HG1.out (fun y hy e => by
              injection e with e
              rcases HGO2.out y hy with q | q
              · have := (HVL.out y q).2; omega
              · omega) (fun y hy e => by injection e with e; have := HS.out y hy; have := HBW.out; omega)
            rw [List.length_append, prCss_snoc]
            exact HF2
          · rw [Hr.out]
            exact grown_trans HGF.out HG1.out (fun y hy => by injection hy with hy; right; omega)
theorem genS_any (t : Tm) : GenS t := Tm.ind (fun n ts h => genS_of (.node n ts) h) t
end Go.Proofs.YtooocakkjdhfiaaDoor
