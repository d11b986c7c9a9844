/- Several texts in one file. -/
import Derived.Test.YtglhbaigigdeeaaGreatQ05
import Derived.Test.YtglhbaigigdeeaaGreatQ13
import Derived.Test.YtglhbaigigdeeaaGreatQ06
import Derived.Test.YtglhbaigigdeeaaGreatQ07
import Derived.Test.YtglhbaigigdeeaaGreatQ08
/- The reference matches a pattern with a term. -/
namespace Go.Proofs.YtglhbaigigdeeaaGreat
set_option maxRecDepth 100000
open Go.RowKit

theorem infoPairS : (Tryz.prog.info? 89).map (fun i => (i.zero, i.size, i.bytes)) = some (some (.agg #[.string ByteArray.empty, .string ByteArray.empty, .slice none 0 0]), 3, 56) := by kernel_rfl

def Smalls (l : List Bnd) : Prop := ∀ b ∈ l, b.term.bulk ≤ 1048576
/-- what matching leaves -/
def Matched (o : Option (List Bnd)) (l : List Bnd) (v : Value) (B : Nat) (S : Nat → Prop) (w : World) (e : Ending) (w' : World) : Prop :=
  w.grownBy w' v.ownBlock ∧ Pre w w' v (l.length * 3) ∧ ∃ v', e = .returned (.tuple #[v', .bool o.isSome]) ∧ Goes w v v' ∧
    (∀ l', o = some l' → Rv S w' B 89 3 v' l'.length (Bnd.css l')) ∧ (o = none → ∃ l', D.rd (fun _ => True) w' v' (Bnd.sd l') ∧ l'.length ≤ 1073741824 ∧ Smalls l')
def MatS (t : Tm) : Prop := ∀ (u : Tm) (l : List Bnd) (v : Value) (B : Nat) (S : Nat → Prop) (c0 c1 d0 d1 : Value) (w : World), Rv S w B 89 3 v l.length (Bnd.css l) → B ≤ w.heap.size → (∀ x, S x → x < B) → Tm.at S w c0 c1 t → Tm.at S w d0 d1 u → l.length + t.size ≤ 1073741824 → Smalls l → u.bulk ≤ 1048576 →
  Calls Tryz.prog 87 #[.agg #[c0, c1], .agg #[d0, d1], v] w (Matched (Tm.mat t u l) l v B S w)

theorem Bnd.rd_of {S : Nat → Prop} {w : World} {B : Nat} {e : TypeId} {v : Value} {l : List Bnd} (h : Rv S w B e 3 v l.length (Bnd.css l)) : D.rd (fun x => S x ∨ v.ownBlock = some x) w v (Bnd.sd l) := by
  rw [Bnd.sd_css]
  exact (h.mono fun _ q => .inl q).rd (by decide) fun k hk => .inr hk
theorem Bnd.rd_old {S : Nat → Prop} {w w' : World} {B : Nat} {e : TypeId} {v : Value} {l : List Bnd} (h : Rv S w B e 3 v l.length (Bnd.css l)) (hk : Keeps S w w') (hp : Pre w w' v (l.length * 3)) (hz : w.heap.size ≤ w'.heap.size) : D.rd (fun _ => True) w' v (Bnd.sd l) := by
  rw [Bnd.sd_css]
  exact D.rd_all (h.old (by decide) hk hp hz)

set_option maxHeartbeats 4000000 in
theorem matS_of (t : Tm) (ih : ∀ a ∈ t.args, MatS a) : MatS t := by
  intro u l v B S c0 c1 d0 d1 w hv hB hS ht hu hsz hsm hub
  have HSM := hid hsm
  clear hsm
  have hvl := hv.lt
  obtain ⟨va, vc, rfl, hvn, hvc⟩ := hv.form
  unfold big at hvn
  have HV := hid hv
  have HS := hid hS
  have HVL := hid hvl
  clear hv hvl hS
  have hts := Tm.size_pos t
  have htl : t.args.length ≤ 9223372036854775807 := by obtain ⟨_, _, _, q, _⟩ := Tm.sd_form ht.2; exact q
  by_cases h1 : varName t.name = true
  · have HN := hid h1
    clear h1
    obtain ⟨rfl, tn, ta, tc, rfl⟩ := Tm.at_form ht
    obtain ⟨rfl, un, ua, uc, rfl⟩ := Tm.at_form hu
    have hW : Below w.heap.size w ((w.alloc (.cells #[.string t.name, .slice ta t.args.length tc] 56)).alloc (.cells #[.string u.name, .slice ua u.args.length uc] 56)) := ((Below.refl _ _).alloc (Nat.le_refl _) _).alloc (by simp) _
    have bt : Box ((w.alloc (.cells #[.string t.name, .slice ta t.args.length tc] 56)).alloc (.cells #[.string u.name, .slice ua u.args.length uc] 56)) (w.heap.size) [.string t.name, .slice ta t.args.length tc] := by
      have := ((Box.new w [.string t.name, .slice ta t.args.length tc] 56).alloc (.cells #[.string u.name, .slice ua u.args.length uc] 56))
      simpa only [World.size_alloc] using this
    have bu : Box ((w.alloc (.cells #[.string t.name, .slice ta t.args.length tc] 56)).alloc (.cells #[.string u.name, .slice ua u.args.length uc] 56)) (w.heap.size + 1) [.string u.name, .slice ua u.args.length uc] := by
      have := (Box.new (w.alloc (.cells #[.string t.name, .slice ta t.args.length tc] 56)) [.string u.name, .slice ua u.args.length uc] 56)
      simpa only [World.size_alloc] using this
    replace ht := Tm.at_keep (Keeps.all hW) ht
    replace hu := Tm.at_keep (Keeps.all hW) hu
    have et0 := bt.c0
    have et1 := bt.c1
    have lt := bt.lt
    have eu0 := bu.c0
    have eu1 := bu.c1
    have lu := bu.lt
    go_enter Tryz.func87, Tryz.ntmps87
    go_wp2_with fail
    clear et0 et1 lt eu0 eu1 lu
    have Hw0 : Hid (((w.alloc (.cells #[.string t.name, .slice ta t.args.length tc] 56)).alloc (.cells #[.string u.name, .slice ua u.args.length uc] 56)).heap.size = w.heap.size + 1 + 1) := by simp [Hid]
    generalize ((w.alloc (.cells #[.string t.name, .slice ta t.args.length tc] 56)).alloc (.cells #[.string u.name, .slice ua u.args.length uc] 56)) = w0 at *
    refine (l2Var_any _ tn _).mono ?_
    rintro e w1 ⟨rfl, rfl⟩
    rw [HN.out]
    have et0 := bt.c0
    have et1 := bt.c1
    have lt := bt.lt
    have eu0 := bu.c0
    have eu1 := bu.c1
    have lu := bu.lt
    go_wp2_with fail
    clear et0 et1 lt eu0 eu1 lu
    go_loopw [8] (fun i wr => ∃ k : Nat, k ≤ l.length ∧ i = .int .i64 k ∧ Hid (∀ j (h : j < l.length), j < k → l[j].var ≠ t.name) ∧ Below w0.heap.size w0 wr) (fun i _ => l.length - (intOf i).toNat)
    case atStart => exact ⟨0, Nat.zero_le _, rfl, fun j h h' => absurd h' (by omega), Below.refl _ _⟩
    case round =>
      obtain ⟨k, hk, rfl, HK, hb⟩ := hrel
      have hWb := hW.trans (hb.mono hW.size)
      replace bt := bt.keep hb
      replace bu := bu.keep hb
      replace ht := Tm.at_keep (Keeps.all hb) ht
      replace hu := Tm.at_keep (Keeps.all hb) hu
      have et0 := bt.c0
      have et1 := bt.c1
      have lt := bt.lt
      have eu0 := bu.c0
      have eu1 := bu.c1
      have lu := bu.lt
      by_cases hlt : k < l.length
      · have hne : l ≠ [] := by intro e; subst e; simp at hlt
        have hr := Bnd.rd_of (HV.out.keep hWb)
        obtain ⟨b, off, rfl, hSb, hbl, hrr⟩ := Bnd.sd_get hr hne
        obtain ⟨x0, x1, x2, q0, q1, q2, qx⟩ := hrr k hlt
        have hqe := hid qx.2
        obtain ⟨rfl, rfl, x, xc, rfl⟩ := Bnd.at_form qx
        have q2' : wr.cell? ⟨b, off + k * 3 + 1 + 1, none⟩ = some (.slice x l[k].term.args.length xc) := q2
        have hT0 : (0 : Int) ≤ (k : Int) := by omega
        clear hrr qx hr
        by_cases he : l[k].var = t.name
        · have HM : Hid (Tm.mat t u l = if Tm.eqb l[k].term u = true then some l else none) := Tm.mat_old HN.out (lookB_at hlt he HK.out)
          have hq := show (l[k].var.toList == t.name.toList) = true by rw [he]; simp
          clear he
          go_wp2_with fail
          refine wp_region_B [fun v _ => v = .slice (some ⟨b, off, none⟩) l.length vc, fun v _ => v = .int .i64 k, fun v _ => v = .pointer (some ⟨b, off + k * 3, none⟩), fun v _ => v = .pointer (some ⟨b, off + k * 3, none⟩), fun v _ => v = .string l[k].var, fun v _ => v = .pointer (some ⟨w.heap.size, 0, none⟩), fun v _ => v = .string t.name, fun v _ => v = .bool true] _ (fun V => by simp [putAll, Act.put]; rfl) (by kernel_rfl) (by decide) (by simp) (by kernel_rfl) ?_ ?_ ?_
          · intro F hF
            simp only [List.mem_cons, List.not_mem_nil, or_false] at hF
            rcases hF with rfl | rfl | rfl | rfl | rfl | rfl | rfl | rfl
            · exact stable_eq
            · exact stable_eq
            · exact stable_eq
            · exact stable_eq
            · exact stable_eq
            · exact stable_eq
            · exact stable_eq
            · exact stable_eq
          · refine ⟨?_, ?_, ?_, ?_, ?_, ?_, ?_, ?_, trivial⟩
            · intro V w1 hbR _
              unfold Does
              go_simp
              exact ⟨Below.refl _ _, rfl⟩
            · intro V w1 hbR _
              unfold Does
              go_simp
              exact ⟨Below.refl _ _, rfl⟩
            · intro V w1 hbR ⟨f0, f1, _⟩
              replace f0 : V 0 = .slice (some ⟨b, off, none⟩) l.length vc := f0
              replace f1 : V 1 = .int .i64 k := f1
              unfold Does
              go_simp
              exact ⟨Below.refl _ _, rfl⟩
            · intro V w1 hbR ⟨f2, _⟩
              replace f2 : V 2 = .pointer (some ⟨b, off + k * 3, none⟩) := f2
              unfold Does
              go_simp
              exact ⟨Below.refl _ _, rfl⟩
            · intro V w1 hbR ⟨f3, _⟩
              replace f3 : V 3 = .pointer (some ⟨b, off + k * 3, none⟩) := f3
              obtain ⟨hc, hf⟩ := bcell hbR
              try simp only [World.size_alloc, World.size_setCell] at hc hf
              unfold Does
              go_simp
              exact ⟨Below.refl _ _, rfl⟩
            · intro V w1 hbR _
              unfold Does
              go_simp
              exact ⟨Below.refl _ _, rfl⟩
            · intro V w1 hbR ⟨f5, _⟩
              replace f5 : V 5 = .pointer (some ⟨w.heap.size, 0, none⟩) := f5
              obtain ⟨hc, hf⟩ := bcell hbR
              try simp only [World.size_alloc, World.size_setCell] at hc hf
              unfold Does
              go_simp
              exact ⟨Below.refl _ _, rfl⟩
            · intro V w1 hbR ⟨f4, f6, _⟩
              replace f4 : V 4 = .string l[k].var := f4
              replace f6 : V 6 = .string t.name := f6
              unfold Does
              go_simp
              exact ⟨Below.refl _ _, rfl⟩
          intro V w3 hbR hfR
          obtain ⟨f0, f1, f2, f3, f4, f5, f6, f7, _⟩ := hfR
          replace f0 : V 0 = .slice (some ⟨b, off, none⟩) l.length vc := f0
          replace f1 : V 1 = .int .i64 k := f1
          replace f2 : V 2 = .pointer (some ⟨b, off + k * 3, none⟩) := f2
          replace f3 : V 3 = .pointer (some ⟨b, off + k * 3, none⟩) := f3
          replace f4 : V 4 = .string l[k].var := f4
          replace f5 : V 5 = .pointer (some ⟨w.heap.size, 0, none⟩) := f5
          replace f6 : V 6 = .string t.name := f6
          replace f7 : V 7 = .bool true := f7
          simp only [f0, f1, f2, f3, f4, f5, f6, f7]
          clear f0 f1 f2 f3 f4 f5 f6 f7
          clear et0 et1 lt eu0 eu1 lu
          have hbx := hb.trans (hbR.mono hb.size)
          have hWx := hW.trans (hbx.mono hW.size)
          replace bt := bt.keep hbR
          replace bu := bu.keep hbR
          replace ht := Tm.at_keep (Keeps.all hbR) ht
          replace hu := Tm.at_keep (Keeps.all hbR) hu
          replace hqe := hid (Tm.at_keep (Keeps.all hbR) hqe.out)
          replace q0 := (hbR.cell (p := ⟨b, off + k * 3, none⟩) hbl).trans q0
          have q1a := (hbR.cell (p := ⟨b, off + k * 3 + 1, none⟩) hbl).trans q1
          have q1b := (hbR.cell (p := ⟨b, off + k * 3 + 1 + 1, none⟩) hbl).trans q2'
          have hblw := Nat.lt_of_lt_of_le hbl hbR.size
          clear q1 q2 q2' hq hb hbR
          have hbl3 := hWx.size
          have hsame := l2Same_any l[k].term u
          have et0 := bt.c0
          have et1 := bt.c1
          have lt := bt.lt
          have eu0 := bu.c0
          have eu1 := bu.c1
          have lu := bu.lt
          rename World => w3
          obtain ⟨eb, Heb⟩ : ∃ eb, Hid (Tm.eqb l[k].term u = eb) := ⟨_, hid rfl⟩
          rw [Heb.out] at HM
          unfold Tells at hsame
          rw [Heb.out] at hsame
          go_wp2_with fail
          refine wp_region_B [fun v _ => v = .slice (some ⟨b, off, none⟩) l.length vc, fun v _ => v = .slice (some ⟨b, off, none⟩) l.length vc, fun v _ => v = .int .i64 k, fun v _ => v = .pointer (some ⟨b, off + k * 3, none⟩), fun v _ => v = .pointer (some ⟨b, off + k * 3 + 1, none⟩), fun v _ => v = .agg #[.string l[k].term.name, .slice x l[k].term.args.length xc], fun v _ => v = .agg #[.string u.name, .slice ua u.args.length uc], fun v _ => v = .bool eb, fun v _ => v = .slice (some ⟨b, off, none⟩) l.length vc, fun v _ => v = .bool eb] _ (fun V => by simp [putAll, Act.put]; rfl) (by kernel_rfl) (by decide) (by simp) (by kernel_rfl) ?_ ?_ ?_
          · intro F hF
            simp only [List.mem_cons, List.not_mem_nil, or_false] at hF
            rcases hF with rfl | rfl | rfl | rfl | rfl | rfl | rfl | rfl | rfl | rfl
            · exact stable_eq
            · exact stable_eq
            · exact stable_eq
            · exact stable_eq
            · exact stable_eq
            · exact stable_eq
            · exact stable_eq
            · exact stable_eq
            · exact stable_eq
            · exact stable_eq
          · refine ⟨?_, ?_, ?_, ?_, ?_, ?_, ?_, ?_, ?_, ?_, trivial⟩
            · intro V w1 hbR _
              unfold Does
              go_simp
              exact ⟨Below.refl _ _, rfl⟩
            · intro V w1 hbR _
              unfold Does
              go_simp
              exact ⟨Below.refl _ _, rfl⟩
            · intro V w1 hbR _
              unfold Does
              go_simp
              exact ⟨Below.refl _ _, rfl⟩
            · intro V w1 hbR ⟨f1, f2, _⟩
              replace f1 : V 1 = .slice (some ⟨b, off, none⟩) l.length vc := f1
              replace f2 : V 2 = .int .i64 k := f2
              unfold Does
              go_simp
              exact ⟨Below.refl _ _, rfl⟩
            · intro V w1 hbR ⟨f3, _⟩
              replace f3 : V 3 = .pointer (some ⟨b, off + k * 3, none⟩) := f3
              unfold Does
              go_simp
              exact ⟨Below.refl _ _, rfl⟩
            · intro V w1 hbR ⟨f4, _⟩
              replace f4 : V 4 = .pointer (some ⟨b, off + k * 3 + 1, none⟩) := f4
              obtain ⟨hc, hf⟩ := bcell hbR
              try simp only [World.size_alloc, World.size_setCell] at hc hf
              unfold Does
              go_simp
              exact ⟨Below.refl _ _, rfl⟩
            · intro V w1 hbR _
              obtain ⟨hc, hf⟩ := bcell hbR
              try simp only [World.size_alloc, World.size_setCell] at hc hf
              unfold Does
              go_simp
              exact ⟨Below.refl _ _, rfl⟩
            · intro V w1 hbR ⟨f5, f6, _⟩
              replace f5 : V 5 = .agg #[.string l[k].term.name, .slice x l[k].term.args.length xc] := f5
              replace f6 : V 6 = .agg #[.string u.name, .slice ua u.args.length uc] := f6
              obtain ⟨hc, hf⟩ := bcell hbR
              try simp only [World.size_alloc, World.size_setCell] at hc hf
              unfold Does
              go_simp
              exact (hsame _ _ _ _ _ _ (Tm.at_keep (Keeps.all hbR) (Tm.at_all hqe.out)) (Tm.at_keep (Keeps.all hbR) (Tm.at_all hu))).mono (fun _ _ ⟨h1, h2⟩ => ⟨_, h1, h2, rfl⟩)
            · intro V w1 hbR ⟨f0, f7, _, _⟩
              replace f0 : V 0 = .slice (some ⟨b, off, none⟩) l.length vc := f0
              replace f7 : V 7 = .bool eb := f7
              unfold Does
              go_simp
              exact ⟨Below.refl _ _, rfl⟩
            · intro V w1 hbR ⟨f7, f8, f0, f1, f2, f3, f4, f5, f6, _, _, _⟩
              replace f0 : V 0 = .slice (some ⟨b, off, none⟩) l.length vc := f0
              replace f1 : V 1 = .slice (some ⟨b, off, none⟩) l.length vc := f1
              replace f2 : V 2 = .int .i64 k := f2
              replace f3 : V 3 = .pointer (some ⟨b, off + k * 3, none⟩) := f3
              replace f4 : V 4 = .pointer (some ⟨b, off + k * 3 + 1, none⟩) := f4
              replace f5 : V 5 = .agg #[.string l[k].term.name, .slice x l[k].term.args.length xc] := f5
              replace f6 : V 6 = .agg #[.string u.name, .slice ua u.args.length uc] := f6
              replace f7 : V 7 = .bool eb := f7
              replace f8 : V 8 = .slice (some ⟨b, off, none⟩) l.length vc := f8
              unfold Does
              go_simp
              exact ⟨Below.refl _ _, rfl⟩
          intro V w4 hbR hfR
          obtain ⟨f0, f1, f2, f3, f4, f5, f6, f7, f8, f9, _⟩ := hfR
          replace f0 : V 0 = .slice (some ⟨b, off, none⟩) l.length vc := f0
          replace f1 : V 1 = .slice (some ⟨b, off, none⟩) l.length vc := f1
          replace f2 : V 2 = .int .i64 k := f2
          replace f3 : V 3 = .pointer (some ⟨b, off + k * 3, none⟩) := f3
          replace f4 : V 4 = .pointer (some ⟨b, off + k * 3 + 1, none⟩) := f4
          replace f5 : V 5 = .agg #[.string l[k].term.name, .slice x l[k].term.args.length xc] := f5
          replace f6 : V 6 = .agg #[.string u.name, .slice ua u.args.length uc] := f6
          replace f7 : V 7 = .bool eb := f7
          replace f8 : V 8 = .slice (some ⟨b, off, none⟩) l.length vc := f8
          replace f9 : V 9 = .bool eb := f9
          simp only [f0, f1, f2, f3, f4, f5, f6, f7, f8, f9]
          clear f0 f1 f2 f3 f4 f5 f6 f7 f8 f9
          clear et0 et1 lt eu0 eu1 lu
          go_wp2_with fail
          go_ret2
          have hWy := hWx.trans (hbR.mono hWx.size)
          refine ⟨grown_of_below hWy _, Pre.of_below hWy (fun y hy => (HVL.out y hy).2), _, ?_, Goes.refl _ _, ?_, ?_⟩
          · rw [HM.out]; cases eb <;> rfl
          · intro l' h
            rw [HM.out] at h
            cases eb with
            | false => cases h
            | true => injection h with h; subst h; exact HV.out.keep hWy
          · intro _
            exact ⟨l, D.rd_all (Bnd.rd_of (HV.out.keep hWy)), by omega, HSM.out⟩
        · have HKN : Hid (∀ j (h : j < l.length), j < k + 1 → l[j].var ≠ t.name) := fun j h hj => by
            by_cases hjk : j < k
            · exact HK.out j h hjk
            · obtain rfl : j = k := by omega
              exact he
          have hq := toList_ne he
          clear he
          go_wp2_with fail
          refine wp_region_B [fun v _ => v = .slice (some ⟨b, off, none⟩) l.length vc, fun v _ => v = .int .i64 k, fun v _ => v = .pointer (some ⟨b, off + k * 3, none⟩), fun v _ => v = .pointer (some ⟨b, off + k * 3, none⟩), fun v _ => v = .string l[k].var, fun v _ => v = .pointer (some ⟨w.heap.size, 0, none⟩), fun v _ => v = .string t.name, fun v _ => v = .bool false] _ (fun V => by simp [putAll, Act.put]; rfl) (by kernel_rfl) (by decide) (by simp) (by kernel_rfl) ?_ ?_ ?_
          · intro F hF
            simp only [List.mem_cons, List.not_mem_nil, or_false] at hF
            rcases hF with rfl | rfl | rfl | rfl | rfl | rfl | rfl | rfl
            · exact stable_eq
            · exact stable_eq
            · exact stable_eq
            · exact stable_eq
            · exact stable_eq
            · exact stable_eq
            · exact stable_eq
            · exact stable_eq
          · refine ⟨?_, ?_, ?_, ?_, ?_, ?_, ?_, ?_, trivial⟩
            · intro V w1 hbR _
              unfold Does
              go_simp
              exact ⟨Below.refl _ _, rfl⟩
            · intro V w1 hbR _
              unfold Does
              go_simp
              exact ⟨Below.refl _ _, rfl⟩
            · intro V w1 hbR ⟨f0, f1, _⟩
              replace f0 : V 0 = .slice (some ⟨b, off, none⟩) l.length vc := f0
              replace f1 : V 1 = .int .i64 k := f1
              unfold Does
              go_simp
              exact ⟨Below.refl _ _, rfl⟩
            · intro V w1 hbR ⟨f2, _⟩
              replace f2 : V 2 = .pointer (some ⟨b, off + k * 3, none⟩) := f2
              unfold Does
              go_simp
              exact ⟨Below.refl _ _, rfl⟩
            · intro V w1 hbR ⟨f3, _⟩
              replace f3 : V 3 = .pointer (some ⟨b, off + k * 3, none⟩) := f3
              obtain ⟨hc, hf⟩ := bcell hbR
              try simp only [World.size_alloc, World.size_setCell] at hc hf
              unfold Does
              go_simp
              exact ⟨Below.refl _ _, rfl⟩
            · intro V w1 hbR _
              unfold Does
              go_simp
              exact ⟨Below.refl _ _, rfl⟩
            · intro V w1 hbR ⟨f5, _⟩
              replace f5 : V 5 = .pointer (some ⟨w.heap.size, 0, none⟩) := f5
              obtain ⟨hc, hf⟩ := bcell hbR
              try simp only [World.size_alloc, World.size_setCell] at hc hf
              unfold Does
              go_simp
              exact ⟨Below.refl _ _, rfl⟩
            · intro V w1 hbR ⟨f4, f6, _⟩
              replace f4 : V 4 = .string l[k].var := f4
              replace f6 : V 6 = .string t.name := f6
              unfold Does
              go_simp
              exact ⟨Below.refl _ _, rfl⟩
          intro V w3 hbR hfR
          obtain ⟨f0, f1, f2, f3, f4, f5, f6, f7, _⟩ := hfR
          replace f0 : V 0 = .slice (some ⟨b, off, none⟩) l.length vc := f0
          replace f1 : V 1 = .int .i64 k := f1
          replace f2 : V 2 = .pointer (some ⟨b, off + k * 3, none⟩) := f2
          replace f3 : V 3 = .pointer (some ⟨b, off + k * 3, none⟩) := f3
          replace f4 : V 4 = .string l[k].var := f4
          replace f5 : V 5 = .pointer (some ⟨w.heap.size, 0, none⟩) := f5
          replace f6 : V 6 = .string t.name := f6
          replace f7 : V 7 = .bool false := f7
          simp only [f0, f1, f2, f3, f4, f5, f6, f7]
          clear f0 f1 f2 f3 f4 f5 f6 f7
          clear et0 et1 lt eu0 eu1 lu
          go_wp2_with fail
          go_roundw
          case rel => exact ⟨k + 1, by omega, by go_num, HKN, hb.trans (hbR.mono hb.size)⟩
          case measure => simp [intOf]; omega
      · obtain rfl : k = l.length := by omega
        have HM : Hid (Tm.mat t u l = some (l ++ [⟨t.name, u⟩])) := Tm.mat_new HN.out (lookB_none.2 fun x hx => by
          obtain ⟨j, hj, rfl⟩ := List.mem_iff_getElem.1 hx
          exact HK.out j hj hj)
        have hz := hWb.size
        have hA : Below wr.heap.size wr (wr.alloc (.cells #[.string t.name, .string u.name, .slice ua u.args.length uc] 89)) := (Below.refl _ _).alloc (Nat.le_refl _) _
        have HR : Hid (CellsRd S (wr.alloc (.cells #[.string t.name, .string u.name, .slice ua u.args.length uc] 89)) [.string t.name, .string u.name, .slice ua u.args.length uc] (Bnd.cs ⟨t.name, u⟩)) := by
          rw [Hid, Bnd.cs_eq]
          exact ⟨D.rd_str tn, D.rd_keep (Keeps.all hA) _ _ hu.1, D.rd_keep (Keeps.all hA) _ _ hu.2, trivial⟩
        go_wp2_with (refine wpList_append_rv (S := S) (B := B) (k := 1) (off := 0) (news := [.string t.name, .string u.name, .slice ua u.args.length uc]) Tryz.underlying68 infoPairS rfl (by decide) (by decide) rfl _ _ (by rfl) (by rfl) (by rfl) ((HV.out.keep hWb).keep hA) (fun y hy q => by have h1 := (HVL.out y hy).1; have h2 := HS.out y q; omega) rfl (by intro j u hj; rw [Nat.zero_add, box1]; simpa using hj) HR.out (by omega) (by rw [World.size_alloc]; omega) ?_; intro v2 w2 hrow hgr hgo hnn hpre)
        go_ret2
        have hWy := hWb.trans (hA.mono hWb.size)
        refine ⟨grown_trans (grown_of_below hWy _) hgr (fun _ h => .inl h), fun g i hg hi => (hpre g i hg hi).trans (Pre.of_below hWy (fun y hy => (HVL.out y hy).2) g i hg hi), _, by rw [HM.out]; rfl, fun y hy => ?_, fun l' h => ?_, fun h => ?_⟩
        · have hy2 : v2.ownBlock = some y := hy
          rcases hgo with q | q
          · rw [q] at hy2; exact .inl hy2
          · rw [q, World.size_alloc] at hy2; injection hy2 with hy2; right; omega
        · rw [HM.out] at h
          injection h with h
          subst h
          have hrow2 : Rv S w2 B 89 3 v2 (l.length + 1) (Bnd.css l ++ Bnd.cs ⟨t.name, u⟩) := hrow
          rw [List.length_append, Bnd.css_flat, List.flatMap_append]
          simpa [Bnd.css_flat] using hrow2
        · rw [HM.out] at h; cases h
  · have HN := hid (Bool.eq_false_iff.2 h1)
    clear h1
    by_cases hnn : t.name = u.name
    · by_cases hll : t.args.length = u.args.length
      · have HM : Hid (Tm.mat t u l = Tm.mats t.args u.args l) := Tm.mat_node l HN.out hnn hll
        have hq := show (t.name.toList == u.name.toList) = true by rw [hnn]; simp
        have HLL := hid hll
        have hqi : ((t.args.length : Int) != (u.args.length : Int)) = false := by simp [hll]
        have hqn : (t.name.toList != u.name.toList) = false := by rw [hnn]; simp
        clear hnn hll
        obtain ⟨rfl, tn, ta, tc, rfl⟩ := Tm.at_form ht
        obtain ⟨rfl, un, ua, uc, rfl⟩ := Tm.at_form hu
        have hW : Below w.heap.size w ((w.alloc (.cells #[.string t.name, .slice ta t.args.length tc] 56)).alloc (.cells #[.string u.name, .slice ua u.args.length uc] 56)) := ((Below.refl _ _).alloc (Nat.le_refl _) _).alloc (by simp) _
        have bt : Box ((w.alloc (.cells #[.string t.name, .slice ta t.args.length tc] 56)).alloc (.cells #[.string u.name, .slice ua u.args.length uc] 56)) (w.heap.size) [.string t.name, .slice ta t.args.length tc] := by
          have := ((Box.new w [.string t.name, .slice ta t.args.length tc] 56).alloc (.cells #[.string u.name, .slice ua u.args.length uc] 56))
          simpa only [World.size_alloc] using this
        have bu : Box ((w.alloc (.cells #[.string t.name, .slice ta t.args.length tc] 56)).alloc (.cells #[.string u.name, .slice ua u.args.length uc] 56)) (w.heap.size + 1) [.string u.name, .slice ua u.args.length uc] := by
          have := (Box.new (w.alloc (.cells #[.string t.name, .slice ta t.args.length tc] 56)) [.string u.name, .slice ua u.args.length uc] 56)
          simpa only [World.size_alloc] using this
        replace ht := Tm.at_keep (Keeps.all hW) ht
        replace hu := Tm.at_keep (Keeps.all hW) hu
        have et0 := bt.c0
        have et1 := bt.c1
        have lt := bt.lt
        have eu0 := bu.c0
        have eu1 := bu.c1
        have lu := bu.lt
        go_enter Tryz.func87, Tryz.ntmps87
        go_wp2_with fail
        clear et0 et1 lt eu0 eu1 lu
        have Hw0 : Hid (((w.alloc (.cells #[.string t.name, .slice ta t.args.length tc] 56)).alloc (.cells #[.string u.name, .slice ua u.args.length uc] 56)).heap.size = w.heap.size + 1 + 1) := by simp [Hid]
        generalize ((w.alloc (.cells #[.string t.name, .slice ta t.args.length tc] 56)).alloc (.cells #[.string u.name, .slice ua u.args.length uc] 56)) = w0 at *
        refine (l2Var_any _ tn _).mono ?_
        rintro e w1 ⟨rfl, rfl⟩
        rw [HN.out]
        have et0 := bt.c0
        have et1 := bt.c1
        have lt := bt.lt
        have eu0 := bu.c0
        have eu1 := bu.c1
        have lu := bu.lt
        go_wp2_with fail
        clear et0 et1 lt eu0 eu1 lu
        clear hq hqi hqn
        go_loopw [2, 9] (fun x i wr => ∃ (k : Nat) (l1 : List Bnd), k ≤ t.args.length ∧ i = .int .i64 k ∧ Hid (Tm.mats (t.args.take k) u.args l = some l1) ∧ Hid (Rv S wr B 89 3 x l1.length (Bnd.css l1)) ∧ Hid (w0.grownBy wr (Value.slice va l.length vc).ownBlock) ∧ Hid (Goes w0 (.slice va l.length vc) x) ∧ Hid (Pre w wr (.slice va l.length vc) (l.length * 3)) ∧ l.length ≤ l1.length ∧ l1.length ≤ l.length + Tm.sizes (t.args.take k) ∧ Hid (Smalls l1)) (fun _ i _ => t.args.length - (intOf i).toNat)
        case atStart => exact ⟨0, l, Nat.zero_le _, rfl, by rw [List.take_zero, Tm.mats]; exact hid rfl, hid (HV.out.keep hW), grown_refl _ _, Goes.refl _ _, Pre.of_below hW (fun y hy => (HVL.out y hy).2), Nat.le_refl _, by omega, HSM⟩
        case round =>
          obtain ⟨k, l1, hk, rfl, HMK, HRV, HGR, HGO, HPR, hl0, hl1, HSM1⟩ := hrel
          have hgz := HGR.out.size
          have hw0 := Hw0.out
          have n0 : ¬ (Value.slice va l.length vc).ownBlock = some w.heap.size := fun e => by have := (HVL.out _ e).2; omega
          have n1 : ¬ (Value.slice va l.length vc).ownBlock = some (w.heap.size + 1) := fun e => by have := (HVL.out _ e).2; omega
          have et0 := ((bcellG HGR.out).1 _ 0 bt.lt n0).trans bt.c0
          have et1 := ((bcellG HGR.out).1 _ 1 bt.lt n0).trans bt.c1
          have eu0 := ((bcellG HGR.out).1 _ 0 bu.lt n1).trans bu.c0
          have eu1 := ((bcellG HGR.out).1 _ 1 bu.lt n1).trans bu.c1
          have lt := Nat.lt_of_lt_of_le bt.lt hgz
          have lu := Nat.lt_of_lt_of_le bu.lt hgz
          have hkS : Keeps S w0 wr := ⟨hgz, fun y hy hl => HGR.out.block y hl fun e => by have h1 := (HVL.out y e.symm).1; have h2 := HS.out y hy; omega⟩
          have htr := Tm.at_keep hkS ht
          have hur := Tm.at_keep hkS hu
          by_cases hlt : k < t.args.length
          · have hlu : k < u.args.length := by have := HLL.out; omega
            have hne : t.args ≠ [] := by intro e; rw [e] at hlt; simp at hlt
            have hneu : u.args ≠ [] := by intro e; rw [e] at hlu; simp at hlu
            obtain ⟨b, off, rfl, hSb, hbl, hrr⟩ := Tm.sd_get htr.2 hne
            obtain ⟨x0, x1, q0, q1, qx⟩ := hrr k hlt
            obtain ⟨b', off', rfl, hSb', hbl', hrr'⟩ := Tm.sd_get hur.2 hneu
            obtain ⟨y0, y1, r0, r1, rx⟩ := hrr' k hlu
            have hqx := hid qx
            have hrx := hid rx
            obtain ⟨rfl, -, xa, xc, rfl⟩ := Tm.at_form qx
            obtain ⟨rfl, -, ya, yc, rfl⟩ := Tm.at_form rx
            have hT0 : (0 : Int) ≤ (k : Int) := by omega
            obtain ⟨r, Hr⟩ : ∃ r, Hid (u2.ownBlock = r) := ⟨_, hid rfl⟩
            have HL : Hid (∀ y, r = some y → B ≤ y ∧ y < wr.heap.size) := fun y hy => HRV.out.lt y (Hr.out.trans hy)
            have HL2 : Hid (∀ y, r = some y → (Value.slice va l.length vc).ownBlock = some y ∨ w0.heap.size ≤ y) := fun y hy => HGO.out y (Hr.out.trans hy)
            have m0 : ¬ r = some w.heap.size := fun e => by
              rcases HL2.out _ e with q | q
              · exact n0 q
              · omega
            have m1 : ¬ r = some (w.heap.size + 1) := fun e => by
              rcases HL2.out _ e with q | q
              · exact n1 q
              · omega
            have mb : ¬ r = some b := fun e => by have h1 := (HL.out _ e).1; have h2 := HS.out _ hSb; omega
            have mb' : ¬ r = some b' := fun e => by have h1 := (HL.out _ e).1; have h2 := HS.out _ hSb'; omega
            have hst := Tm.sizes_take t.args k hlt
            have hsl := Tm.sizes_le t.args (k + 1)
            have hts2 : t.size = 1 + Tm.sizes t.args := by cases t; rw [Tm.size]; rfl
            have hih := ih t.args[k] (List.getElem_mem hlt) u.args[k] l1 u2 B S (.string t.args[k].name) (.slice xa t.args[k].args.length xc) (.string u.args[k].name) (.slice ya u.args[k].args.length yc) wr.drew (HRV.out.keep ((Below.refl _ _).drew)) (by show B ≤ wr.heap.size; have := hW.size; omega) HS.out (Tm.at_keep (Keeps.all ((Below.refl _ _).drew)) hqx.out) (Tm.at_keep (Keeps.all ((Below.refl _ _).drew)) hrx.out) (by omega) HSM1.out (by have := Tm.bulk_mem (List.getElem_mem hlu); have := Tm.args_bulk u; omega)
            have HSA := hid (fun l2 => Tm.mat_all (P := fun b => b.term.bulk ≤ 1048576) t.args[k] u.args[k] l1 l2 (fun n _ _ v hv => by have := Tm.bulk_mem (List.getElem_mem hlu); have := Tm.args_bulk u; simp only; omega) HSM1.out)
            have HST := hid (Tm.mats_take t.args u.args l k hlt hlu)
            rw [HMK.out] at HST
            obtain ⟨ob, Hob⟩ : ∃ ob, Hid (Tm.mat t.args[k] u.args[k] l1 = ob) := ⟨_, hid rfl⟩
            rw [Hob.out] at hih
            have HST2 : Hid (Tm.mats (t.args.take (k + 1)) u.args l = ob) := HST.out.trans Hob.out
            have hml := Tm.mat_length t.args[k] u.args[k] l1
            rw [Hob.out] at hml
            have HML := hid hml
            rw [Hob.out] at HSA
            have hmg := Tm.mat_ge t.args[k] u.args[k] l1
            rw [Hob.out] at hmg
            have HMG := hid hmg
            have HSZ := hid hst
            have HLB : Hid (l1.length ≤ 1073741824) := by rw [Hid]; omega
            have HIH := hid hih
            clear hrr hrr' qx rx hst hsl hih hml hmg HST htr hur hkS
            go_wp2_with fail
            refine region_late (l := [_, _, _, _, _, _, _, _, _, _, _, _, _, _, _, _, _]) (tl := []) (S := fun w1 => (wr).grownBy w1 (r)) (n := 17) rfl rfl (by kernel_rfl) (by kernel_rfl) (grown_of_below ((Below.refl _ _).drew) _) (fun hQL hS => ?_)
            refine late_take (i := 0) (d := some 67) (v := .pointer (some ⟨w.heap.size, 1, none⟩)) rfl rfl (by kernel_rfl) (by kernel_rfl) (by kernel_rfl) hQL (by rfl) (fun w1 _ => (by go_simp)) hS ?_
            try simp only [Act.put, List.setIfInBounds_toArray, List.set_cons_zero, List.set_cons_succ]
            refine late_take (i := 1) (d := some 68) (v := .slice (some ⟨b, off, none⟩) t.args.length tc) rfl rfl (by kernel_rfl) (by kernel_rfl) (by kernel_rfl) hQL (by rfl) (fun w1 hS1 => (by obtain ⟨hc, hf⟩ := bcellG hS1; go_simp)) hS ?_
            try simp only [Act.put, List.setIfInBounds_toArray, List.set_cons_zero, List.set_cons_succ]
            refine late_take (i := 2) (d := some 69) (v := .int .i64 k) rfl rfl (by kernel_rfl) (by kernel_rfl) (by kernel_rfl) hQL (by rfl) (fun w1 _ => (by go_simp)) hS ?_
            try simp only [Act.put, List.setIfInBounds_toArray, List.set_cons_zero, List.set_cons_succ]
            refine late_take (i := 3) (d := some 70) (v := .pointer (some ⟨b, off + k * 2, none⟩)) rfl rfl (by kernel_rfl) (by kernel_rfl) (by kernel_rfl) hQL (by rfl) (fun w1 _ => (by go_simp)) hS ?_
            try simp only [Act.put, List.setIfInBounds_toArray, List.set_cons_zero, List.set_cons_succ]
            refine late_take (i := 4) (d := some 71) (v := .agg #[.string t.args[k].name, .slice xa t.args[k].args.length xc]) rfl rfl (by kernel_rfl) (by kernel_rfl) (by kernel_rfl) hQL (by rfl) (fun w1 hS1 => (by obtain ⟨hc, hf⟩ := bcellG hS1; go_simp)) hS ?_
            try simp only [Act.put, List.setIfInBounds_toArray, List.set_cons_zero, List.set_cons_succ]
            refine late_take (i := 5) (d := some 72) (v := .pointer (some ⟨(w.heap.size + 1), 1, none⟩)) rfl rfl (by kernel_rfl) (by kernel_rfl) (by kernel_rfl) hQL (by rfl) (fun w1 _ => (by go_simp)) hS ?_
            try simp only [Act.put, List.setIfInBounds_toArray, List.set_cons_zero, List.set_cons_succ]
            refine late_take (i := 6) (d := some 73) (v := .slice (some ⟨b', off', none⟩) u.args.length uc) rfl rfl (by kernel_rfl) (by kernel_rfl) (by kernel_rfl) hQL (by rfl) (fun w1 hS1 => (by obtain ⟨hc, hf⟩ := bcellG hS1; go_simp)) hS ?_
            try simp only [Act.put, List.setIfInBounds_toArray, List.set_cons_zero, List.set_cons_succ]
            refine late_take (i := 7) (d := some 74) (v := .int .i64 k) rfl rfl (by kernel_rfl) (by kernel_rfl) (by kernel_rfl) hQL (by rfl) (fun w1 _ => (by go_simp)) hS ?_
            try simp only [Act.put, List.setIfInBounds_toArray, List.set_cons_zero, List.set_cons_succ]
            refine late_take (i := 8) (d := some 75) (v := .pointer (some ⟨b', off' + k * 2, none⟩)) rfl rfl (by kernel_rfl) (by kernel_rfl) (by kernel_rfl) hQL (by rfl) (fun w1 _ => (by go_simp)) hS ?_
            try simp only [Act.put, List.setIfInBounds_toArray, List.set_cons_zero, List.set_cons_succ]
            refine late_take (i := 9) (d := some 76) (v := .agg #[.string u.args[k].name, .slice ya u.args[k].args.length yc]) rfl rfl (by kernel_rfl) (by kernel_rfl) (by kernel_rfl) hQL (by rfl) (fun w1 hS1 => (by obtain ⟨hc, hf⟩ := bcellG hS1; go_simp)) hS ?_
            try simp only [Act.put, List.setIfInBounds_toArray, List.set_cons_zero, List.set_cons_succ]
            refine late_take (i := 10) (d := some 77) (v := u2) rfl rfl (by kernel_rfl) (by kernel_rfl) (by kernel_rfl) hQL (by rfl) (fun w1 _ => (by go_simp)) hS ?_
            try simp only [Act.put, List.setIfInBounds_toArray, List.set_cons_zero, List.set_cons_succ]
            refine wpAnyH_ready (rs := [11]) (by kernel_rfl) (by simp) ?_
            refine AllReadyH.cons rfl (fun K hK => ?_) AllReadyH.nil
            refine step_does rfl ?_
            unfold Does
            go_simp
            go_at_call 87
            refine HIH.out.mono ?_
            rintro e w1 ⟨hg1, hp1, v1, rfl, hgo1, hsm1, hno1⟩
            rw [Hr.out] at hg1
            refine ⟨_, rfl, ?_⟩
            refine hK.out _ _ (World.grownBy.trans hS hg1) (fun hS => ?_)
            try show wpAnyH _ _ _ _ _ _ _ (Act.put _ (some 78) _) _
            try simp only [Act.put, List.setIfInBounds_toArray, List.set_cons_zero, List.set_cons_succ]
            refine late_take (i := 12) (d := some 66) (v := .tuple #[v1, .bool ob.isSome]) rfl rfl (by kernel_rfl) (by kernel_rfl) (by kernel_rfl) hQL (by rfl) (fun w1 _ => (by go_simp)) hS ?_
            try simp only [Act.put, List.setIfInBounds_toArray, List.set_cons_zero, List.set_cons_succ]
            refine late_take (i := 13) (d := some 79) (v := v1) rfl rfl (by kernel_rfl) (by kernel_rfl) (by kernel_rfl) hQL (by rfl) (fun w1 _ => (by go_simp)) hS ?_
            try simp only [Act.put, List.setIfInBounds_toArray, List.set_cons_zero, List.set_cons_succ]
            refine late_take (i := 14) (d := some 80) (v := .bool ob.isSome) rfl rfl (by kernel_rfl) (by kernel_rfl) (by kernel_rfl) hQL (by rfl) (fun w1 _ => (by go_simp)) hS ?_
            try simp only [Act.put, List.setIfInBounds_toArray, List.set_cons_zero, List.set_cons_succ]
            refine late_take (i := 15) (d := some 10) (v := v1) rfl rfl (by kernel_rfl) (by kernel_rfl) (by kernel_rfl) hQL (by rfl) (fun w1 _ => (by go_simp)) hS ?_
            try simp only [Act.put, List.setIfInBounds_toArray, List.set_cons_zero, List.set_cons_succ]
            refine late_take (i := 16) (d := some 11) (v := .bool ob.isSome) rfl rfl (by kernel_rfl) (by kernel_rfl) (by kernel_rfl) hQL (by rfl) (fun w1 _ => (by go_simp)) hS ?_
            try simp only [Act.put, List.setIfInBounds_toArray, List.set_cons_zero, List.set_cons_succ]
            refine wpAnyH_done (by kernel_rfl) ?_ _
            show wpTail _ _ _ _ _
            refine wpTail_nil ?_
            have HPR2 : Hid (Pre w w1 (.slice va l.length vc) (l.length * 3)) := by
              intro g i hg hi
              rw [← HPR.out g i hg hi]
              have hgw : g < wr.heap.size := by have := (HVL.out g hg).2; have := hW.size; omega
              by_cases hgr : r = some g
              · exact hp1 g i (Hr.out.trans hgr) (by omega)
              · exact (bcellG hS).1 g i hgw hgr
            have HGR2 : Hid (w0.grownBy w1 (Value.slice va l.length vc).ownBlock) := grown_trans HGR.out hS (fun y h => HL2.out y h)
            have HGO2 : Hid (Goes w0 (.slice va l.length vc) v1) := Goes.trans HGO.out hgz hgo1
            cases ob with
            | none =>
              have HRD : Hid (D.rd (fun _ => True) w1 u2 (Bnd.sd l1)) := Bnd.rd_old HRV.out ⟨hS.size, fun y hy hl => hS.block y hl fun e => by have h1 := (HL.out _ e.symm).1; have h2 := HS.out y hy; omega⟩ (fun g i hg hi => hp1 g i hg hi) hS.size
              have HNO : Hid (Tm.mat t u l = none) := HM.out.trans (Tm.mats_none (k + 1) HST2.out)
              clear hg1 hp1 hgo1 hsm1 hno1 hS
              go_wp2_with fail
              go_ret2
              exact ⟨grown_trans (grown_of_below hW _) HGR2.out (fun _ h => .inl h), HPR2.out, _, by rw [HNO.out]; rfl, Goes.trans (Goes.refl _ _) hW.size HGO.out, (fun l' h => by rw [HNO.out] at h; cases h), fun _ => ⟨l1, HRD.out, HLB.out, HSM1.out⟩⟩
            | some l2 =>
              have HRV2 := hid (hsm1 l2 rfl)
              have H2A := hid (HML.out l2 rfl)
              have H2B := hid (HMG.out l2 rfl)
              have HSA2 : Hid (Smalls l2) := HSA.out l2 rfl
              clear hg1 hp1 hgo1 hsm1 hno1 hS
              go_wp2_with fail
              go_roundw
              case rel => exact ⟨k + 1, l2, by omega, by go_num, HST2, HRV2, HGR2, HGO2, HPR2, by have := H2B.out; omega, by have := H2A.out; have := HSZ.out; omega, HSA2⟩
              case measure => simp [intOf]; omega
          · obtain rfl : k = t.args.length := by omega
            have HY : Hid (Tm.mat t u l = some l1) := by have := HMK.out; rw [List.take_length] at this; exact HM.out.trans this
            go_wp2_with fail
            go_ret2
            refine ⟨grown_trans (grown_of_below hW _) HGR.out (fun _ h => .inl h), HPR.out, _, by rw [HY.out]; rfl, Goes.trans (Goes.refl _ _) hW.size HGO.out, fun l' h => ?_, fun h => by rw [HY.out] at h; cases h⟩
            rw [HY.out] at h
            injection h with h
            subst h
            exact HRV.out
      · have HM : Hid (Tm.mat t u l = none) := Tm.mat_no l HN.out (fun h => hll h.2)
        have hqn : (t.name.toList != u.name.toList) = false := by rw [hnn]; simp
        have hqi : ((t.args.length : Int) != (u.args.length : Int)) = true := by simp; omega
        have hq := show (t.name.toList == u.name.toList) = true by rw [hnn]; simp
        have hqj : ((t.args.length : Int) == (u.args.length : Int)) = false := by simp; omega
        clear hnn hll
        obtain ⟨rfl, tn, ta, tc, rfl⟩ := Tm.at_form ht
        obtain ⟨rfl, un, ua, uc, rfl⟩ := Tm.at_form hu
        have hW : Below w.heap.size w ((w.alloc (.cells #[.string t.name, .slice ta t.args.length tc] 56)).alloc (.cells #[.string u.name, .slice ua u.args.length uc] 56)) := ((Below.refl _ _).alloc (Nat.le_refl _) _).alloc (by simp) _
        have bt : Box ((w.alloc (.cells #[.string t.name, .slice ta t.args.length tc] 56)).alloc (.cells #[.string u.name, .slice ua u.args.length uc] 56)) (w.heap.size) [.string t.name, .slice ta t.args.length tc] := by
          have := ((Box.new w [.string t.name, .slice ta t.args.length tc] 56).alloc (.cells #[.string u.name, .slice ua u.args.length uc] 56))
          simpa only [World.size_alloc] using this
        have bu : Box ((w.alloc (.cells #[.string t.name, .slice ta t.args.length tc] 56)).alloc (.cells #[.string u.name, .slice ua u.args.length uc] 56)) (w.heap.size + 1) [.string u.name, .slice ua u.args.length uc] := by
          have := (Box.new (w.alloc (.cells #[.string t.name, .slice ta t.args.length tc] 56)) [.string u.name, .slice ua u.args.length uc] 56)
          simpa only [World.size_alloc] using this
        replace ht := Tm.at_keep (Keeps.all hW) ht
        replace hu := Tm.at_keep (Keeps.all hW) hu
        have et0 := bt.c0
        have et1 := bt.c1
        have lt := bt.lt
        have eu0 := bu.c0
        have eu1 := bu.c1
        have lu := bu.lt
        go_enter Tryz.func87, Tryz.ntmps87
        go_wp2_with fail
        clear et0 et1 lt eu0 eu1 lu
        have Hw0 : Hid (((w.alloc (.cells #[.string t.name, .slice ta t.args.length tc] 56)).alloc (.cells #[.string u.name, .slice ua u.args.length uc] 56)).heap.size = w.heap.size + 1 + 1) := by simp [Hid]
        generalize ((w.alloc (.cells #[.string t.name, .slice ta t.args.length tc] 56)).alloc (.cells #[.string u.name, .slice ua u.args.length uc] 56)) = w0 at *
        refine (l2Var_any _ tn _).mono ?_
        rintro e w1 ⟨rfl, rfl⟩
        rw [HN.out]
        have et0 := bt.c0
        have et1 := bt.c1
        have lt := bt.lt
        have eu0 := bu.c0
        have eu1 := bu.c1
        have lu := bu.lt
        go_wp2_with fail
        clear et0 et1 lt eu0 eu1 lu
        go_ret2
        exact ⟨grown_of_below hW _, Pre.of_below hW (fun y hy => (HVL.out y hy).2), _, by rw [HM.out]; rfl, Goes.refl _ _, (fun l' h => by rw [HM.out] at h; cases h), fun _ => ⟨l, D.rd_all (Bnd.rd_of (HV.out.keep hW)), by omega, HSM.out⟩⟩
    · have HM : Hid (Tm.mat t u l = none) := Tm.mat_no l HN.out (fun h => hnn h.1)
      have hqn : (t.name.toList != u.name.toList) = true := by rw [bne, toList_ne hnn]; rfl
      have hq := toList_ne hnn
      clear hnn
      obtain ⟨rfl, tn, ta, tc, rfl⟩ := Tm.at_form ht
      obtain ⟨rfl, un, ua, uc, rfl⟩ := Tm.at_form hu
      have hW : Below w.heap.size w ((w.alloc (.cells #[.string t.name, .slice ta t.args.length tc] 56)).alloc (.cells #[.string u.name, .slice ua u.args.length uc] 56)) := ((Below.refl _ _).alloc (Nat.le_refl _) _).alloc (by simp) _
      have bt : Box ((w.alloc (.cells #[.string t.name, .slice ta t.args.length tc] 56)).alloc (.cells #[.string u.name, .slice ua u.args.length uc] 56)) (w.heap.size) [.string t.name, .slice ta t.args.length tc] := by
        have := ((Box.new w [.string t.name, .slice ta t.args.length tc] 56).alloc (.cells #[.string u.name, .slice ua u.args.length uc] 56))
        simpa only [World.size_alloc] using this
      have bu : Box ((w.alloc (.cells #[.string t.name, .slice ta t.args.length tc] 56)).alloc (.cells #[.string u.name, .slice ua u.args.length uc] 56)) (w.heap.size + 1) [.string u.name, .slice ua u.args.length uc] := by
        have := (Box.new (w.alloc (.cells #[.string t.name, .slice ta t.args.length tc] 56)) [.string u.name, .slice ua u.args.length uc] 56)
        simpa only [World.size_alloc] using this
      replace ht := Tm.at_keep (Keeps.all hW) ht
      replace hu := Tm.at_keep (Keeps.all hW) hu
      have et0 := bt.c0
      have et1 := bt.c1
      have lt := bt.lt
      have eu0 := bu.c0
      have eu1 := bu.c1
      have lu := bu.lt
      go_enter Tryz.func87, Tryz.ntmps87
      go_wp2_with fail
      clear et0 et1 lt eu0 eu1 lu
      have Hw0 : Hid (((w.alloc (.cells #[.string t.name, .slice ta t.args.length tc] 56)).alloc (.cells #[.string u.name, .slice ua u.args.length uc] 56)).heap.size = w.heap.size + 1 + 1) := by simp [Hid]
      generalize ((w.alloc (.cells #[.string t.name, .slice ta t.args.length tc] 56)).alloc (.cells #[.string u.name, .slice ua u.args.length uc] 56)) = w0 at *
      refine (l2Var_any _ tn _).mono ?_
      rintro e w1 ⟨rfl, rfl⟩
      rw [HN.out]
      have et0 := bt.c0
      have et1 := bt.c1
      have lt := bt.lt
      have eu0 := bu.c0
      have eu1 := bu.c1
      have lu := bu.lt
      go_wp2_with fail
      clear et0 et1 lt eu0 eu1 lu
      go_ret2
      exact ⟨grown_of_below hW _, Pre.of_below hW (fun y hy => (HVL.out y hy).2), _, by rw [HM.out]; rfl, Goes.refl _ _, (fun l' h => by rw [HM.out] at h; cases h), fun _ => ⟨l, D.rd_all (Bnd.rd_of (HV.out.keep hW)), by omega, HSM.out⟩⟩
theorem matS_any (t : Tm) : MatS t := Tm.ind (fun n ts h => matS_of (.node n ts) h) t
end Go.Proofs.YtglhbaigigdeeaaGreat
