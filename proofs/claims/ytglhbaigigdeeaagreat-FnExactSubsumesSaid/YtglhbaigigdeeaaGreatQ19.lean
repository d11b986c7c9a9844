/- Several texts in one file. -/
import Derived.Test.YtglhbaigigdeeaaGreatQ15
import Derived.Test.YtglhbaigigdeeaaGreatQ18
import Derived.Test.YtglhbaigigdeeaaGreatQ05
import Derived.Test.YtglhbaigigdeeaaGreatQ08
/- The reference matches literals one after the other. -/
namespace Go.Proofs.YtglhbaigigdeeaaGreat
set_option maxRecDepth 100000
open Go.RowKit

/-- append(list, src...) where src is a list of borrowed items or nil -/
theorem run_append_rvs {P : Program} {S : Nat → Prop} {w : World} {B B2 : Nat} {t e ty : TypeId} {m bytes : Nat} {z : Value} (ht : P.underlying t = some (.slice e)) (hinfo : (P.info? e).map (fun i => (i.zero, i.size, i.bytes)) = some (some z, m, bytes)) (hzs : z.cells.size = m) (hm : 0 < m) (hbytes : bytes ≤ 1000)
    {v : Value} {n : Nat} {ds : List D} (hrow : Rv S w B e m v n ds) (hv : ∀ k, v.ownBlock = some k → ¬ S k) {u : Value} {k : Nat} {es : List D} (hu : Rv S w B2 e m u k es) (hn : n + k ≤ 4294967296) (hB : B ≤ w.heap.size) :
    ∃ v' w', (Builtin.append_ #[t, t] ty #[v, u]).run P w = .ok v' w' ∧ Rv S w' B e m v' (n + k) (ds ++ es) ∧ w.grownBy w' v.ownBlock ∧ (v'.ownBlock = v.ownBlock ∨ v'.ownBlock = some w.heap.size) := by
  obtain ⟨vs, h0, h1⟩ := hu
  have hl := h0.1
  have hcs := fun g hg => h0.cells (g := g) hg
  rcases h0.2 with ⟨rfl, rfl⟩ | ⟨g, cap, cur, rfl, -, -, -, -, -, -⟩
  · obtain ⟨i, hi, hz0, hz1, hz2⟩ := info_split hinfo
    have hv0 : vs = [] := List.length_eq_zero_iff.1 (by rw [hl]; simp)
    subst hv0
    have he : es = [] := List.length_eq_zero_iff.1 (by rw [← h1.length]; rfl)
    subst he
    have hrow2 := hrow
    obtain ⟨us, r0, r1⟩ := hrow
    exact ⟨v, w, run_append_owned_none (P := P) (w := w) B t ty e i m ht hi v n us r0, by simpa using hrow2, grown_refl _ _, .inl rfl⟩
  · obtain ⟨v', w', q1, q2, q3, q4, -, -⟩ := run_append_rv (ty := ty) (b := g) (off := 0) (k := k) (c := cap) (news := vs) ht hinfo hzs hm hbytes hrow hv hl (fun j u hj => by
      have := hcs g rfl j u hj
      unfold Addr.add at this
      split at this
      · rename_i h0; subst h0; exact this
      · simpa using this) h1 hn hB
    exact ⟨v', w', q1, q2, q3, q4⟩
theorem step_append_rvs {P : Program} {ops : Array Oper} {o : Oper} {a : Act} {w : World} {K : Act → World → Prop} {Q : Exit → Act → World → Prop} {E : Prop} {S : Nat → Prop} {B B2 : Nat} {t e : TypeId} {m bytes : Nat} {z : Value} (ht : P.underlying t = some (.slice e)) (hinfo : (P.info? e).map (fun i => (i.zero, i.size, i.bytes)) = some (some z, m, bytes)) (hzs : z.cells.size = m) (hm : 0 < m) (hbytes : bytes ≤ 1000)
    (hgd : o.guard = none) (s x : Operand) (ho : o.op = .call { callee := .builtin .append, args := #[s, x], argTypes := #[t, t] })
    {v : Value} {n : Nat} {ds : List D} {u : Value} {k : Nat} {es : List D} (hs : a.eval s = v) (hx : a.eval x = u) (hrow : Rv S w B e m v n ds) (hv : ∀ k, v.ownBlock = some k → ¬ S k) (hu : Rv S w B2 e m u k es) (hn : n + k ≤ 4294967296) (hB : B ≤ w.heap.size)
    (h : ∀ v' w', Rv S w' B e m v' (n + k) (ds ++ es) → w.grownBy w' v.ownBlock → (v'.ownBlock = v.ownBlock ∨ v'.ownBlock = some w.heap.size) → K (a.put o.dst v') w') :
    if Region.wanted o (yielded ops a.tmps) = true then Oper.wp P o a w K Q else E := by
  have hw : Region.wanted o (yielded ops a.tmps) = true := by simp [Region.wanted, hgd]
  rw [if_pos hw]
  obtain ⟨v', w', hr, h2, h3, h4⟩ := run_append_rvs (ty := o.type) ht hinfo hzs hm hbytes hrow hv hu hn hB
  unfold Oper.wp execOp
  simp only [ho, resolve, invoke, builtin, Sem.run_bind, Sem.run_pure, Result.andThen_ok, List.map_toArray, List.map_cons, List.map_nil, hs, hx, hr]
  exact h v' w' h2 h3 h4

/-- what l7Match comes to -/
def SubbedS (o : Option (List Bnd)) (w : World) (e : Ending) (w' : World) : Prop := ∃ v', e = .returned (.tuple #[v', .bool o.isSome]) ∧ Below w.heap.size w w' ∧ (∀ l', o = some l' → D.rd (fun _ => True) w' v' (Bnd.sd l')) ∧ (o = none → ∃ l', D.rd (fun _ => True) w' v' (Bnd.sd l') ∧ l'.length ≤ 1073741824 ∧ Smalls l')
def SubSp (ds cs : List Lit) (j : Nat) : Prop := ∀ (l : List Bnd) (v : Value) (B : Nat) (S : Nat → Prop) (c d : Value) (w : World), Rv S w B 89 3 v l.length (Bnd.css l) → B ≤ w.heap.size → (∀ x, S x → x < B) → D.rd S w c (Lit.sd cs) → D.rd S w d (Lit.sd ds) → l.length + sizesL (cs.drop j) ≤ 1073741824 → Smalls l → (∀ y ∈ ds, y.atom.bulk ≤ 1048576) →
  Calls Tryz.prog 60 #[.agg #[c], .int .i64 (j : Int), .agg #[d], v] w (SubbedS (subM ds (cs.drop j) l) w)

set_option maxHeartbeats 1000000 in
theorem subSp_end (ds cs : List Lit) : SubSp ds cs cs.length := by
  intro l v B S c d w hv hB hS hc hd hlen hsm hds
  obtain ⟨ca, cc, rfl, hcb, -⟩ := Lit.sd_form hc
  obtain ⟨da, dc, rfl, -, -⟩ := Lit.sd_form hd
  unfold big at hcb
  have HD : Hid (subM ds (cs.drop cs.length) l = some l) := by rw [Hid, List.drop_length, subM]
  have HB : Hid (Below w.heap.size w ((w.alloc (.cells #[.slice ca cs.length cc] 26)).alloc (.cells #[.slice da ds.length dc] 26))) := ((Below.refl _ _).alloc (Nat.le_refl _) _).alloc (by simp) _
  have HR := hid (D.rd_all (Bnd.rd_of (hv.keep HB.out)))
  have bC : Box ((w.alloc (.cells #[.slice ca cs.length cc] 26)).alloc (.cells #[.slice da ds.length dc] 26)) w.heap.size [.slice ca cs.length cc] := (Box.new w [Value.slice ca cs.length cc] 26).alloc _
  have e0 := bC.c0
  have lC := bC.lt
  clear hv hB hS hc hd hlen hsm hds
  go_enter Tryz.func60, Tryz.ntmps60
  go_wp2_with fail
  go_ret2
  refine ⟨v, by rw [HD.out]; rfl, HB.out, ?_, ?_⟩
  · intro l' h
    rw [HD.out] at h
    injection h with h
    subst h
    exact HR.out
  · intro h
    rw [HD.out] at h
    cases h
set_option maxHeartbeats 4000000 in
theorem subSp_step (ds cs : List Lit) (j : Nat) (hj : j < cs.length) (ih : SubSp ds cs (j + 1)) : SubSp ds cs j := by
  intro l v B S c d w hv hB hS hc hd hlen hsm hds
  obtain ⟨ca, cc, rfl, hcb, hcc⟩ := Lit.sd_form hc
  obtain ⟨da, dc, rfl, hdb, hdc⟩ := Lit.sd_form hd
  unfold big at hcb hdb
  have hvl := hv.lt
  obtain ⟨va, vc, rfl, hvn, hvc⟩ := hv.form
  have hcd : cs.drop j = cs[j] :: cs.drop (j + 1) := List.drop_eq_getElem_cons hj
  have hcne : cs ≠ [] := by intro e; subst e; simp at hj
  obtain ⟨bc, oc, rfl, hSc, hbc, hrc⟩ := Lit.sd_get hc hcne
  obtain ⟨u0, u1, u2, x0, x1, x2, xx⟩ := hrc j hj
  have HX := hid (Lit.at_atom xx)
  obtain ⟨rfl, rfl, xa, xc, rfl⟩ := Lit.at_form xx
  replace x2 : w.cell? ⟨bc, oc + j * 3 + 1 + 1, none⟩ = some (.slice xa cs[j].atom.args.length xc) := x2
  have hsz : sizesL (cs.drop j) = cs[j].atom.size + sizesL (cs.drop (j + 1)) := by rw [hcd]; rfl
  rw [hsz] at hlen
  have HLN := hid hlen
  have hll : l.length ≤ 1073741824 := by omega
  rw [hcd]
  have HW0 : Hid (Below w.heap.size w ((w.alloc (.cells #[.slice (some ⟨bc, oc, none⟩) cs.length cc] 26)).alloc (.cells #[.slice da ds.length dc] 26))) := ((Below.refl _ _).alloc (Nat.le_refl _) _).alloc (by simp) _
  have bC : Box ((w.alloc (.cells #[.slice (some ⟨bc, oc, none⟩) cs.length cc] 26)).alloc (.cells #[.slice da ds.length dc] 26)) w.heap.size [.slice (some ⟨bc, oc, none⟩) cs.length cc] := (Box.new w [Value.slice (some ⟨bc, oc, none⟩) cs.length cc] 26).alloc _
  have bD : Box ((w.alloc (.cells #[.slice (some ⟨bc, oc, none⟩) cs.length cc] 26)).alloc (.cells #[.slice da ds.length dc] 26)) (w.heap.size + 1) [.slice da ds.length dc] := by
    have := Box.new (w.alloc (.cells #[.slice (some ⟨bc, oc, none⟩) cs.length cc] 26)) [Value.slice da ds.length dc] 26
    simpa only [World.size_alloc] using this
  have HZ0 : Hid (((w.alloc (.cells #[.slice (some ⟨bc, oc, none⟩) cs.length cc] 26)).alloc (.cells #[.slice da ds.length dc] 26)).heap.size = w.heap.size + 1 + 1) := by simp [Hid]
  have HV := hid hv
  have HS := hid hS
  have HC := hid hc
  have HD := hid hd
  have HSM := hid hsm
  have HDS := hid hds
  have HIH := hid ih
  have HVL := hid hvl
  have hjq : ((j : Int) == (cs.length : Int)) = false := by rw [beq_eq_false_iff_ne]; omega
  have hj0 : (0 : Int) ≤ (j : Int) := by omega
  have hjl : (j : Int) < (cs.length : Int) := by omega
  have hjw : (j : Int) + 1 ≤ 9223372036854775807 := by omega
  clear hv hS hc hd hsm hds ih hvl hrc xx hlen hsz hcd hcne
  have eC0 := bC.c0
  have lC := bC.lt
  go_enter Tryz.func60, Tryz.ntmps60
  go_wp2_with fail
  generalize ((w.alloc (.cells #[.slice (some ⟨bc, oc, none⟩) cs.length cc] 26)).alloc (.cells #[.slice da ds.length dc] 26)) = w0 at *
  clear eC0 lC
  have hz0 := HZ0.out
  go_loopw [10] (fun i wr => ∃ k : Nat, k ≤ ds.length ∧ i = .int .i64 k ∧ Hid (subM ds (cs[j] :: cs.drop (j + 1)) l = tryM (subM ds (cs.drop (j + 1))) cs[j] (ds.drop k) l) ∧ Hid (Below w0.heap.size w0 wr)) (fun i _ => ds.length - (intOf i).toNat)
  case atStart => exact ⟨0, Nat.zero_le _, rfl, rfl, Below.refl _ _⟩
  case round =>
    obtain ⟨k, hk, rfl, HT, HB⟩ := hrel
    have HWR := hid (HW0.out.trans (HB.out.mono (by omega)))
    have hzr := HB.out.size
    have bCr := bC.keep HB.out
    have bDr := bD.keep HB.out
    by_cases hlt : k < ds.length
    · have hne : ds ≠ [] := by intro e; subst e; simp at hlt
      obtain ⟨bd, od, rfl, hSd, hbd, hrd⟩ := Lit.sd_get HD.out hne
      obtain ⟨v0, v1, v2, q0, q1, q2, qx⟩ := hrd k hlt
      have HY := hid (Lit.at_atom qx)
      obtain ⟨rfl, rfl, ya, yc, rfl⟩ := Lit.at_form qx
      have y0 := (HWR.out.cell (p := ⟨bd, od + k * 3, none⟩) hbd).trans q0
      have y1 := (HWR.out.cell (p := ⟨bd, od + k * 3 + 1, none⟩) hbd).trans q1
      have y2 : wr.cell? ⟨bd, od + k * 3 + 1 + 1, none⟩ = some (.slice ya ds[k].atom.args.length yc) := (HWR.out.cell (p := ⟨bd, od + k * 3 + 2, none⟩) hbd).trans q2
      have p0 := (HWR.out.cell (p := ⟨bc, oc + j * 3, none⟩) hbc).trans x0
      have p1 := (HWR.out.cell (p := ⟨bc, oc + j * 3 + 1, none⟩) hbc).trans x1
      have p2 := (HWR.out.cell (p := ⟨bc, oc + j * 3 + 1 + 1, none⟩) hbc).trans x2
      have hbdr := Nat.lt_of_lt_of_le hbd HWR.out.size
      have hbcr := Nat.lt_of_lt_of_le hbc HWR.out.size
      have hT0 : (0 : Int) ≤ (k : Int) := by omega
      have eC0 := bCr.c0
      have lC := bCr.lt
      have eD0 := bDr.c0
      have lD := bDr.lt
      clear hrd qx q0 q1 q2
      by_cases hsg : cs[j].pos = ds[k].pos
      · have HSG := hid hsg
        have hs1 : (cs[j].pos != ds[k].pos) = false := by rw [hsg]; simp
        have hs2 : (!(cs[j].pos == ds[k].pos)) = false := by rw [hsg]; simp
        clear hsg
        go_wp2_with fail
        refine wp_region_B [fun v _ => v = .pointer (some ⟨w.heap.size, 0, none⟩), fun v _ => v = .slice (some ⟨bc, oc, none⟩) cs.length cc, fun v _ => v = .int .i64 j, fun v _ => v = .pointer (some ⟨bc, oc + j * 3, none⟩), fun v _ => v = .pointer (some ⟨bc, oc + j * 3, none⟩), fun v _ => v = .bool cs[j].pos, fun v _ => v = .pointer (some ⟨(w.heap.size + 1), 0, none⟩), fun v _ => v = .slice (some ⟨bd, od, none⟩) ds.length dc, fun v _ => v = .int .i64 k, fun v _ => v = .pointer (some ⟨bd, od + k * 3, none⟩), fun v _ => v = .pointer (some ⟨bd, od + k * 3, none⟩), fun v _ => v = .bool ds[k].pos, fun v _ => v = .bool false] _ (fun V => by simp [putAll, Act.put]; rfl) (by kernel_rfl) (by decide) (by simp) (by kernel_rfl) ?_ ?_ ?_
        · intro F hF
          simp only [List.mem_cons, List.not_mem_nil, or_false] at hF
          rcases hF with rfl | rfl | rfl | rfl | rfl | rfl | rfl | rfl | rfl | rfl | rfl | rfl | rfl
          · exact stable_eq
          · exact stable_eq
          · exact stable_eq
          · exact stable_eq
          · exact stable_eq
          · exact stable_eq
          · exact stable_eq
          · exact stable_eq
          · exact stable_eq
          · exact stable_eq
          · exact stable_eq
          · exact stable_eq
          · exact stable_eq
        · refine ⟨?_, ?_, ?_, ?_, ?_, ?_, ?_, ?_, ?_, ?_, ?_, ?_, ?_, trivial⟩
          · intro V w1 hbR _
            unfold Does
            go_simp
            exact ⟨Below.refl _ _, rfl⟩
          · intro V w1 hbR ⟨f0, _⟩
            replace f0 : V 0 = .pointer (some ⟨w.heap.size, 0, none⟩) := f0
            obtain ⟨hc, hf⟩ := bcell hbR
            try simp only [World.size_alloc, World.size_setCell] at hc hf
            unfold Does
            go_simp
            exact ⟨Below.refl _ _, rfl⟩
          · intro V w1 hbR _
            unfold Does
            go_simp
            exact ⟨Below.refl _ _, rfl⟩
          · intro V w1 hbR ⟨f1, f2, _⟩
            replace f1 : V 1 = .slice (some ⟨bc, oc, none⟩) cs.length cc := f1
            replace f2 : V 2 = .int .i64 j := f2
            unfold Does
            go_simp
            exact ⟨Below.refl _ _, rfl⟩
          · intro V w1 hbR ⟨f3, _⟩
            replace f3 : V 3 = .pointer (some ⟨bc, oc + j * 3, none⟩) := f3
            unfold Does
            go_simp
            exact ⟨Below.refl _ _, rfl⟩
          · intro V w1 hbR ⟨f4, _⟩
            replace f4 : V 4 = .pointer (some ⟨bc, oc + j * 3, none⟩) := f4
            obtain ⟨hc, hf⟩ := bcell hbR
            try simp only [World.size_alloc, World.size_setCell] at hc hf
            unfold Does
            go_simp
            exact ⟨Below.refl _ _, rfl⟩
          · intro V w1 hbR _
            unfold Does
            go_simp
            exact ⟨Below.refl _ _, rfl⟩
          · intro V w1 hbR ⟨f6, _⟩
            replace f6 : V 6 = .pointer (some ⟨(w.heap.size + 1), 0, none⟩) := f6
            obtain ⟨hc, hf⟩ := bcell hbR
            try simp only [World.size_alloc, World.size_setCell] at hc hf
            unfold Does
            go_simp
            exact ⟨Below.refl _ _, rfl⟩
          · intro V w1 hbR _
            unfold Does
            go_simp
            exact ⟨Below.refl _ _, rfl⟩
          · intro V w1 hbR ⟨f7, f8, _⟩
            replace f7 : V 7 = .slice (some ⟨bd, od, none⟩) ds.length dc := f7
            replace f8 : V 8 = .int .i64 k := f8
            unfold Does
            go_simp
            exact ⟨Below.refl _ _, rfl⟩
          · intro V w1 hbR ⟨f9, _⟩
            replace f9 : V 9 = .pointer (some ⟨bd, od + k * 3, none⟩) := f9
            unfold Does
            go_simp
            exact ⟨Below.refl _ _, rfl⟩
          · intro V w1 hbR ⟨f10, _⟩
            replace f10 : V 10 = .pointer (some ⟨bd, od + k * 3, none⟩) := f10
            obtain ⟨hc, hf⟩ := bcell hbR
            try simp only [World.size_alloc, World.size_setCell] at hc hf
            unfold Does
            go_simp
            exact ⟨Below.refl _ _, rfl⟩
          · intro V w1 hbR ⟨f5, f11, _⟩
            replace f5 : V 5 = .bool cs[j].pos := f5
            replace f11 : V 11 = .bool ds[k].pos := f11
            unfold Does
            go_simp
            exact ⟨Below.refl _ _, rfl⟩
        intro V w3 hbR hfR
        obtain ⟨f0, f1, f2, f3, f4, f5, f6, f7, f8, f9, f10, f11, f12, _⟩ := hfR
        replace f0 : V 0 = .pointer (some ⟨w.heap.size, 0, none⟩) := f0
        replace f1 : V 1 = .slice (some ⟨bc, oc, none⟩) cs.length cc := f1
        replace f2 : V 2 = .int .i64 j := f2
        replace f3 : V 3 = .pointer (some ⟨bc, oc + j * 3, none⟩) := f3
        replace f4 : V 4 = .pointer (some ⟨bc, oc + j * 3, none⟩) := f4
        replace f5 : V 5 = .bool cs[j].pos := f5
        replace f6 : V 6 = .pointer (some ⟨(w.heap.size + 1), 0, none⟩) := f6
        replace f7 : V 7 = .slice (some ⟨bd, od, none⟩) ds.length dc := f7
        replace f8 : V 8 = .int .i64 k := f8
        replace f9 : V 9 = .pointer (some ⟨bd, od + k * 3, none⟩) := f9
        replace f10 : V 10 = .pointer (some ⟨bd, od + k * 3, none⟩) := f10
        replace f11 : V 11 = .bool ds[k].pos := f11
        replace f12 : V 12 = .bool false := f12
        simp only [f0, f1, f2, f3, f4, f5, f6, f7, f8, f9, f10, f11, f12]
        clear f0 f1 f2 f3 f4 f5 f6 f7 f8 f9 f10 f11 f12
        have HB3 := hid (HB.out.trans (hbR.mono HB.out.size))
        have HW3 := hid (HWR.out.trans (hbR.mono HWR.out.size))
        replace p0 := (hbR.cell (p := ⟨bc, oc + j * 3, none⟩) hbcr).trans p0
        replace p1 := (hbR.cell (p := ⟨bc, oc + j * 3 + 1, none⟩) hbcr).trans p1
        replace p2 := (hbR.cell (p := ⟨bc, oc + j * 3 + 1 + 1, none⟩) hbcr).trans p2
        replace y0 := (hbR.cell (p := ⟨bd, od + k * 3, none⟩) hbdr).trans y0
        replace y1 := (hbR.cell (p := ⟨bd, od + k * 3 + 1, none⟩) hbdr).trans y1
        replace y2 := (hbR.cell (p := ⟨bd, od + k * 3 + 1 + 1, none⟩) hbdr).trans y2
        replace eC0 := (hbR.cell (p := ⟨w.heap.size, 0, none⟩) lC).trans eC0
        replace eD0 := (hbR.cell (p := ⟨w.heap.size + 1, 0, none⟩) lD).trans eD0
        replace lC := Nat.lt_of_lt_of_le lC hbR.size
        replace lD := Nat.lt_of_lt_of_le lD hbR.size
        replace hbdr := Nat.lt_of_lt_of_le hbdr hbR.size
        replace hbcr := Nat.lt_of_lt_of_le hbcr hbR.size
        have hz3 := HW3.out.size
        clear hbR
        rename World => w3
        have HV3 := hid (HV.out.keep HW3.out)
        have nC : ¬ (none : Option Nat) = some w.heap.size := fun e => by cases e
        have nD : ¬ (none : Option Nat) = some (w.heap.size + 1) := fun e => by cases e
        have nc : ¬ (none : Option Nat) = some bc := fun e => by cases e
        have nd : ¬ (none : Option Nat) = some bd := fun e => by cases e
        obtain ⟨ob, Hob⟩ : ∃ ob, Hid (Tm.mat cs[j].atom ds[k].atom l = ob) := ⟨_, hid rfl⟩
        have hml := Tm.mat_length cs[j].atom ds[k].atom l
        have hsa := fun l2 => Tm.mat_all (P := fun b => b.term.bulk ≤ 1048576) cs[j].atom ds[k].atom l l2 (fun n _ _ v hv => by have := HDS.out ds[k] (List.getElem_mem hlt); simp only; omega) HSM.out
        rw [Hob.out] at hml hsa
        have HML := hid hml
        have HSA := hid hsa
        clear hml hsa
        go_wp2_with fail
        refine region_late (l := [_, _, _, _, _, _, _, _, _, _, _, _, _, _, _, _, _, _, _, _, _]) (tl := []) (S := fun w1 => (w3).grownBy w1 (none)) (n := 21) rfl rfl (by kernel_rfl) (by kernel_rfl) (grown_of_below ((Below.refl _ _).drew) _) (fun hQL hS => ?_)
        refine late_take (i := 0) (d := some 42) (v := .pointer (some ⟨w.heap.size, 0, none⟩)) rfl rfl (by kernel_rfl) (by kernel_rfl) (by kernel_rfl) hQL (by rfl) (fun w1 _ => (by go_simp)) hS ?_
        try simp only [Act.put, List.setIfInBounds_toArray, List.set_cons_zero, List.set_cons_succ]
        refine late_take (i := 1) (d := some 43) (v := .slice (some ⟨bc, oc, none⟩) cs.length cc) rfl rfl (by kernel_rfl) (by kernel_rfl) (by kernel_rfl) hQL (by rfl) (fun w1 hS1 => (by obtain ⟨hc, hf⟩ := bcellG hS1; go_simp)) hS ?_
        try simp only [Act.put, List.setIfInBounds_toArray, List.set_cons_zero, List.set_cons_succ]
        refine late_take (i := 2) (d := some 44) (v := .int .i64 j) rfl rfl (by kernel_rfl) (by kernel_rfl) (by kernel_rfl) hQL (by rfl) (fun w1 _ => (by go_simp)) hS ?_
        try simp only [Act.put, List.setIfInBounds_toArray, List.set_cons_zero, List.set_cons_succ]
        refine late_take (i := 3) (d := some 45) (v := .pointer (some ⟨bc, oc + j * 3, none⟩)) rfl rfl (by kernel_rfl) (by kernel_rfl) (by kernel_rfl) hQL (by rfl) (fun w1 _ => (by go_simp)) hS ?_
        try simp only [Act.put, List.setIfInBounds_toArray, List.set_cons_zero, List.set_cons_succ]
        refine late_take (i := 4) (d := some 46) (v := .pointer (some ⟨bc, oc + j * 3 + 1, none⟩)) rfl rfl (by kernel_rfl) (by kernel_rfl) (by kernel_rfl) hQL (by rfl) (fun w1 _ => (by go_simp)) hS ?_
        try simp only [Act.put, List.setIfInBounds_toArray, List.set_cons_zero, List.set_cons_succ]
        refine late_take (i := 5) (d := some 47) (v := .agg #[.string cs[j].atom.name, .slice xa cs[j].atom.args.length xc]) rfl rfl (by kernel_rfl) (by kernel_rfl) (by kernel_rfl) hQL (by rfl) (fun w1 hS1 => (by obtain ⟨hc, hf⟩ := bcellG hS1; go_simp)) hS ?_
        try simp only [Act.put, List.setIfInBounds_toArray, List.set_cons_zero, List.set_cons_succ]
        refine late_take (i := 6) (d := some 48) (v := .pointer (some ⟨(w.heap.size + 1), 0, none⟩)) rfl rfl (by kernel_rfl) (by kernel_rfl) (by kernel_rfl) hQL (by rfl) (fun w1 _ => (by go_simp)) hS ?_
        try simp only [Act.put, List.setIfInBounds_toArray, List.set_cons_zero, List.set_cons_succ]
        refine late_take (i := 7) (d := some 49) (v := .slice (some ⟨bd, od, none⟩) ds.length dc) rfl rfl (by kernel_rfl) (by kernel_rfl) (by kernel_rfl) hQL (by rfl) (fun w1 hS1 => (by obtain ⟨hc, hf⟩ := bcellG hS1; go_simp)) hS ?_
        try simp only [Act.put, List.setIfInBounds_toArray, List.set_cons_zero, List.set_cons_succ]
        refine late_take (i := 8) (d := some 50) (v := .int .i64 k) rfl rfl (by kernel_rfl) (by kernel_rfl) (by kernel_rfl) hQL (by rfl) (fun w1 _ => (by go_simp)) hS ?_
        try simp only [Act.put, List.setIfInBounds_toArray, List.set_cons_zero, List.set_cons_succ]
        refine late_take (i := 9) (d := some 51) (v := .pointer (some ⟨bd, od + k * 3, none⟩)) rfl rfl (by kernel_rfl) (by kernel_rfl) (by kernel_rfl) hQL (by rfl) (fun w1 _ => (by go_simp)) hS ?_
        try simp only [Act.put, List.setIfInBounds_toArray, List.set_cons_zero, List.set_cons_succ]
        refine late_take (i := 10) (d := some 52) (v := .pointer (some ⟨bd, od + k * 3 + 1, none⟩)) rfl rfl (by kernel_rfl) (by kernel_rfl) (by kernel_rfl) hQL (by rfl) (fun w1 _ => (by go_simp)) hS ?_
        try simp only [Act.put, List.setIfInBounds_toArray, List.set_cons_zero, List.set_cons_succ]
        refine late_take (i := 11) (d := some 53) (v := .agg #[.string ds[k].atom.name, .slice ya ds[k].atom.args.length yc]) rfl rfl (by kernel_rfl) (by kernel_rfl) (by kernel_rfl) hQL (by rfl) (fun w1 hS1 => (by obtain ⟨hc, hf⟩ := bcellG hS1; go_simp)) hS ?_
        try simp only [Act.put, List.setIfInBounds_toArray, List.set_cons_zero, List.set_cons_succ]
        refine late_take (i := 13) (d := some 55) (v := .slice va l.length vc) rfl rfl (by kernel_rfl) (by kernel_rfl) (by kernel_rfl) hQL (by rfl) (fun w1 _ => (by go_simp)) hS ?_
        try simp only [Act.put, List.setIfInBounds_toArray, List.set_cons_zero, List.set_cons_succ]
        refine wpAnyH_ready (rs := [12]) (by kernel_rfl) (by simp) ?_
        refine AllReadyH.cons rfl (fun K hK => ?_) AllReadyH.nil
        go_simp
        refine hK.out _ _ (World.grownBy.trans hS (World.grownBy_alloc _ _ _)) (fun hS => ?_)
        try show wpAnyH _ _ _ _ _ _ _ (Act.put _ (some 54) _) _
        try simp only [Act.put, List.setIfInBounds_toArray, List.set_cons_zero, List.set_cons_succ]
        refine wpAnyH_ready (rs := [14]) (by kernel_rfl) (by simp) ?_
        refine AllReadyH.cons rfl (fun K hK => ?_) AllReadyH.nil
        refine step_append_rvs (S := S) (B := w3.heap.size) (B2 := B) Tryz.underlying68 infoPairS rfl (by decide) (by decide) rfl _ _ (by rfl) (by rfl) (by rfl) (Rv.made 89 3 (w := w3.drew) rfl (Nat.le_refl _)) (fun y hy q => by have hy2 : w3.heap.size = y := Option.some.inj hy; have q2 := HS.out y q; omega) (HV3.out.keep (((Below.refl _ _).drew).alloc (Nat.le_refl _) _)) (by omega) (by show w3.heap.size ≤ (w3.alloc _).heap.size; rw [World.size_alloc]; exact Nat.le_succ _) ?_
        intro vr1 w1 hrow1 hgr1 hgo1
        refine hK.out _ _ (grown_trans hS hgr1 (fun y hy => .inr (by have hy2 : w3.heap.size = y := Option.some.inj hy; omega))) (fun hS => ?_)
        try show wpAnyH _ _ _ _ _ _ _ (Act.put _ (some 56) _) _
        try simp only [Act.put, List.setIfInBounds_toArray, List.set_cons_zero, List.set_cons_succ]
        refine wpAnyH_ready (rs := [15]) (by kernel_rfl) (by simp) ?_
        refine AllReadyH.cons rfl (fun K hK => ?_) AllReadyH.nil
        refine step_does rfl ?_
        unfold Does
        go_simp
        go_at_call 87
        have hq := matS_any cs[j].atom ds[k].atom l vr1 w3.heap.size S (.string cs[j].atom.name) (.slice xa cs[j].atom.args.length xc) (.string ds[k].atom.name) (.slice ya ds[k].atom.args.length yc) w1 (by simpa using hrow1) hS.size (fun y hy => by have := HS.out y hy; omega) (Tm.at_keep ⟨hS.size, fun y hy hl => hS.block y hl (fun e => by cases e)⟩ (Tm.at_keep (Keeps.of_below HW3.out (fun y hy _ => by have := HS.out y hy; omega)) HX.out)) (Tm.at_keep ⟨hS.size, fun y hy hl => hS.block y hl (fun e => by cases e)⟩ (Tm.at_keep (Keeps.of_below HW3.out (fun y hy _ => by have := HS.out y hy; omega)) HY.out)) (by have := HLN.out; omega) HSM.out (HDS.out _ (List.getElem_mem hlt))
        rw [Hob.out] at hq
        refine hq.mono ?_
        rintro e w2 ⟨hg2, hp2, vr2, rfl, hgo2, hsm2, hno2⟩
        refine ⟨_, rfl, ?_⟩
        refine hK.out _ _ (grown_trans hS hg2 (fun y hy => .inr (by rcases hgo1 with q | q; (rw [q] at hy; have hy2 : w3.heap.size = y := Option.some.inj hy; omega); (rw [q] at hy; have hy2 : (w3.alloc (.cells #[] 89)).heap.size = y := Option.some.inj hy; rw [World.size_alloc] at hy2; omega)))) (fun hS => ?_)
        try show wpAnyH _ _ _ _ _ _ _ (Act.put _ (some 57) _) _
        try simp only [Act.put, List.setIfInBounds_toArray, List.set_cons_zero, List.set_cons_succ]
        refine late_take (i := 16) (d := some 41) (v := .tuple #[vr2, .bool ob.isSome]) rfl rfl (by kernel_rfl) (by kernel_rfl) (by kernel_rfl) hQL (by rfl) (fun w1 _ => (by go_simp)) hS ?_
        try simp only [Act.put, List.setIfInBounds_toArray, List.set_cons_zero, List.set_cons_succ]
        refine late_take (i := 17) (d := some 58) (v := vr2) rfl rfl (by kernel_rfl) (by kernel_rfl) (by kernel_rfl) hQL (by rfl) (fun w1 _ => (by go_simp)) hS ?_
        try simp only [Act.put, List.setIfInBounds_toArray, List.set_cons_zero, List.set_cons_succ]
        refine late_take (i := 18) (d := some 59) (v := .bool ob.isSome) rfl rfl (by kernel_rfl) (by kernel_rfl) (by kernel_rfl) hQL (by rfl) (fun w1 _ => (by go_simp)) hS ?_
        try simp only [Act.put, List.setIfInBounds_toArray, List.set_cons_zero, List.set_cons_succ]
        refine late_take (i := 19) (d := some 11) (v := vr2) rfl rfl (by kernel_rfl) (by kernel_rfl) (by kernel_rfl) hQL (by rfl) (fun w1 _ => (by go_simp)) hS ?_
        try simp only [Act.put, List.setIfInBounds_toArray, List.set_cons_zero, List.set_cons_succ]
        refine late_take (i := 20) (d := some 12) (v := .bool ob.isSome) rfl rfl (by kernel_rfl) (by kernel_rfl) (by kernel_rfl) hQL (by rfl) (fun w1 _ => (by go_simp)) hS ?_
        try simp only [Act.put, List.setIfInBounds_toArray, List.set_cons_zero, List.set_cons_succ]
        refine wpAnyH_done (by kernel_rfl) ?_ _
        show wpTail _ _ _ _ _
        refine wpTail_nil ?_
        have HB4 : Hid (Below w0.heap.size w0 w2) := HB3.out.grown hS HB3.out.size (fun y hy => by cases hy)
        have HW4 : Hid (Below w.heap.size w w2) := HW3.out.grown hS HW3.out.size (fun y hy => by cases hy)
        have bC4 := bC.keep HB4.out
        have bD4 := bD.keep HB4.out
        cases ob with
        | none =>
          have HTN : Hid (subM ds (cs[j] :: cs.drop (j + 1)) l = tryM (subM ds (cs.drop (j + 1))) cs[j] (ds.drop (k + 1)) l) := HT.out.trans (tryM_no hlt Hob.out)
          clear hsm2 hno2 hg2 hp2 hgo2 hS eC0 eD0 p0 p1 p2 y0 y1 y2 lC lD hrow1 hgr1 hgo1
          go_wp2_with fail
          go_roundw
          case rel => exact ⟨k + 1, by omega, by go_num, HTN, HB4⟩
          case measure => simp [intOf]; omega
        | some l2 =>
          have HR2 := hid (hsm2 l2 rfl)
          have hB4 : w3.heap.size ≤ w2.heap.size := hS.size
          have hq := HIH.out l2 vr2 w3.heap.size S (.slice (some ⟨bc, oc, none⟩) cs.length cc) (.slice (some ⟨bd, od, none⟩) ds.length dc) w2 HR2.out hB4 (fun y hy => by have := HS.out y hy; omega) (D.rd_keep (Keeps.of_below HW4.out (fun y hy _ => by have := HS.out y hy; omega)) _ _ HC.out) (D.rd_keep (Keeps.of_below HW4.out (fun y hy _ => by have := HS.out y hy; omega)) _ _ HD.out) (by have h1 := HML.out l2 rfl; have h2 := HLN.out; omega) (HSA.out l2 rfl) HDS.out
          rw [show (((j + 1 : Nat)) : Int) = (j : Int) + 1 by omega] at hq
          obtain ⟨o2, Ho2⟩ : ∃ o2, Hid (subM ds (cs.drop (j + 1)) l2 = o2) := ⟨_, hid rfl⟩
          rw [Ho2.out] at hq
          clear hsm2 hno2 hg2 hp2 hgo2 hS eC0 eD0 p0 p1 p2 y0 y1 y2 lC lD hrow1 hgr1 hgo1
          have eC0 := bC4.c0
          have lC := bC4.lt
          have eD0 := bD4.c0
          have lD := bD4.lt
          go_wp2_with fail
          refine hq.mono ?_
          clear hq
          rintro e w5 ⟨v5, rfl, hb5, hs5, hn5⟩
          have HB5 := hid (HB4.out.trans (hb5.mono HB4.out.size))
          have HW5 := hid (HW4.out.trans (hb5.mono HW4.out.size))
          clear eC0 eD0 lC lD hb5
          cases o2 with
          | none =>
            have HTN : Hid (subM ds (cs[j] :: cs.drop (j + 1)) l = tryM (subM ds (cs.drop (j + 1))) cs[j] (ds.drop (k + 1)) l) := HT.out.trans (tryM_off hlt Hob.out Ho2.out)
            clear hs5 hn5
            go_wp2_with fail
            go_roundw
            case rel => exact ⟨k + 1, by omega, by go_num, HTN, HB5⟩
            case measure => simp [intOf]; omega
          | some r =>
            have HTY : Hid (subM ds (cs[j] :: cs.drop (j + 1)) l = some r) := HT.out.trans (tryM_yes hlt HSG.out Hob.out Ho2.out)
            have HS5 := hid (hs5 r rfl)
            clear hs5 hn5
            go_wp2_with fail
            go_ret2
            refine ⟨_, by rw [HTY.out]; rfl, HW5.out, ?_, ?_⟩
            · intro l' h
              rw [HTY.out] at h
              injection h with h
              subst h
              exact HS5.out
            · intro h
              rw [HTY.out] at h
              cases h
      · have HTN : Hid (subM ds (cs[j] :: cs.drop (j + 1)) l = tryM (subM ds (cs.drop (j + 1))) cs[j] (ds.drop (k + 1)) l) := HT.out.trans (tryM_sign hlt hsg)
        have hs1 : (cs[j].pos != ds[k].pos) = true := by rw [bne_iff_ne]; exact hsg
        have hs2 : (!(cs[j].pos == ds[k].pos)) = true := hs1
        clear hsg
        go_wp2_with fail
        refine wp_region_B [fun v _ => v = .pointer (some ⟨w.heap.size, 0, none⟩), fun v _ => v = .slice (some ⟨bc, oc, none⟩) cs.length cc, fun v _ => v = .int .i64 j, fun v _ => v = .pointer (some ⟨bc, oc + j * 3, none⟩), fun v _ => v = .pointer (some ⟨bc, oc + j * 3, none⟩), fun v _ => v = .bool cs[j].pos, fun v _ => v = .pointer (some ⟨(w.heap.size + 1), 0, none⟩), fun v _ => v = .slice (some ⟨bd, od, none⟩) ds.length dc, fun v _ => v = .int .i64 k, fun v _ => v = .pointer (some ⟨bd, od + k * 3, none⟩), fun v _ => v = .pointer (some ⟨bd, od + k * 3, none⟩), fun v _ => v = .bool ds[k].pos, fun v _ => v = .bool true] _ (fun V => by simp [putAll, Act.put]; rfl) (by kernel_rfl) (by decide) (by simp) (by kernel_rfl) ?_ ?_ ?_
        · intro F hF
          simp only [List.mem_cons, List.not_mem_nil, or_false] at hF
          rcases hF with rfl | rfl | rfl | rfl | rfl | rfl | rfl | rfl | rfl | rfl | rfl | rfl | rfl
          · exact stable_eq
          · exact stable_eq
          · exact stable_eq
          · exact stable_eq
          · exact stable_eq
          · exact stable_eq
          · exact stable_eq
          · exact stable_eq
          · exact stable_eq
          · exact stable_eq
          · exact stable_eq
          · exact stable_eq
          · exact stable_eq
        · refine ⟨?_, ?_, ?_, ?_, ?_, ?_, ?_, ?_, ?_, ?_, ?_, ?_, ?_, trivial⟩
          · intro V w1 hbR _
            unfold Does
            go_simp
            exact ⟨Below.refl _ _, rfl⟩
          · intro V w1 hbR ⟨f0, _⟩
            replace f0 : V 0 = .pointer (some ⟨w.heap.size, 0, none⟩) := f0
            obtain ⟨hc, hf⟩ := bcell hbR
            try simp only [World.size_alloc, World.size_setCell] at hc hf
            unfold Does
            go_simp
            exact ⟨Below.refl _ _, rfl⟩
          · intro V w1 hbR _
            unfold Does
            go_simp
            exact ⟨Below.refl _ _, rfl⟩
          · intro V w1 hbR ⟨f1, f2, _⟩
            replace f1 : V 1 = .slice (some ⟨bc, oc, none⟩) cs.length cc := f1
            replace f2 : V 2 = .int .i64 j := f2
            unfold Does
            go_simp
            exact ⟨Below.refl _ _, rfl⟩
          · intro V w1 hbR ⟨f3, _⟩
            replace f3 : V 3 = .pointer (some ⟨bc, oc + j * 3, none⟩) := f3
            unfold Does
            go_simp
            exact ⟨Below.refl _ _, rfl⟩
          · intro V w1 hbR ⟨f4, _⟩
            replace f4 : V 4 = .pointer (some ⟨bc, oc + j * 3, none⟩) := f4
            obtain ⟨hc, hf⟩ := bcell hbR
            try simp only [World.size_alloc, World.size_setCell] at hc hf
            unfold Does
            go_simp
            exact ⟨Below.refl _ _, rfl⟩
          · intro V w1 hbR _
            unfold Does
            go_simp
            exact ⟨Below.refl _ _, rfl⟩
          · intro V w1 hbR ⟨f6, _⟩
            replace f6 : V 6 = .pointer (some ⟨(w.heap.size + 1), 0, none⟩) := f6
            obtain ⟨hc, hf⟩ := bcell hbR
            try simp only [World.size_alloc, World.size_setCell] at hc hf
            unfold Does
            go_simp
            exact ⟨Below.refl _ _, rfl⟩
          · intro V w1 hbR _
            unfold Does
            go_simp
            exact ⟨Below.refl _ _, rfl⟩
          · intro V w1 hbR ⟨f7, f8, _⟩
            replace f7 : V 7 = .slice (some ⟨bd, od, none⟩) ds.length dc := f7
            replace f8 : V 8 = .int .i64 k := f8
            unfold Does
            go_simp
            exact ⟨Below.refl _ _, rfl⟩
          · intro V w1 hbR ⟨f9, _⟩
            replace f9 : V 9 = .pointer (some ⟨bd, od + k * 3, none⟩) := f9
            unfold Does
            go_simp
            exact ⟨Below.refl _ _, rfl⟩
          · intro V w1 hbR ⟨f10, _⟩
            replace f10 : V 10 = .pointer (some ⟨bd, od + k * 3, none⟩) := f10
            obtain ⟨hc, hf⟩ := bcell hbR
            try simp only [World.size_alloc, World.size_setCell] at hc hf
            unfold Does
            go_simp
            exact ⟨Below.refl _ _, rfl⟩
          · intro V w1 hbR ⟨f5, f11, _⟩
            replace f5 : V 5 = .bool cs[j].pos := f5
            replace f11 : V 11 = .bool ds[k].pos := f11
            unfold Does
            go_simp
            exact ⟨Below.refl _ _, rfl⟩
        intro V w3 hbR hfR
        obtain ⟨f0, f1, f2, f3, f4, f5, f6, f7, f8, f9, f10, f11, f12, _⟩ := hfR
        replace f0 : V 0 = .pointer (some ⟨w.heap.size, 0, none⟩) := f0
        replace f1 : V 1 = .slice (some ⟨bc, oc, none⟩) cs.length cc := f1
        replace f2 : V 2 = .int .i64 j := f2
        replace f3 : V 3 = .pointer (some ⟨bc, oc + j * 3, none⟩) := f3
        replace f4 : V 4 = .pointer (some ⟨bc, oc + j * 3, none⟩) := f4
        replace f5 : V 5 = .bool cs[j].pos := f5
        replace f6 : V 6 = .pointer (some ⟨(w.heap.size + 1), 0, none⟩) := f6
        replace f7 : V 7 = .slice (some ⟨bd, od, none⟩) ds.length dc := f7
        replace f8 : V 8 = .int .i64 k := f8
        replace f9 : V 9 = .pointer (some ⟨bd, od + k * 3, none⟩) := f9
        replace f10 : V 10 = .pointer (some ⟨bd, od + k * 3, none⟩) := f10
        replace f11 : V 11 = .bool ds[k].pos := f11
        replace f12 : V 12 = .bool true := f12
        simp only [f0, f1, f2, f3, f4, f5, f6, f7, f8, f9, f10, f11, f12]
        clear f0 f1 f2 f3 f4 f5 f6 f7 f8 f9 f10 f11 f12
        clear eC0 eD0 p0 p1 p2 y0 y1 y2 lC lD
        have HB3 := hid (HB.out.trans (hbR.mono HB.out.size))
        go_wp2_with fail
        go_roundw
        case rel => exact ⟨k + 1, by omega, by go_num, HTN, HB3⟩
        case measure => simp [intOf]; omega
    · obtain rfl : k = ds.length := by omega
      have HF : Hid (subM ds (cs[j] :: cs.drop (j + 1)) l = none) := HT.out.trans (tryM_end (Nat.lt_irrefl _))
      have eD0 := bDr.c0
      have lD := bDr.lt
      go_wp2_with fail
      go_ret2
      exact ⟨_, by rw [HF.out]; rfl, HWR.out, (fun l' h => by rw [HF.out] at h; cases h), fun _ => ⟨l, D.rd_all (Bnd.rd_of (HV.out.keep HWR.out)), hll, HSM.out⟩⟩
theorem subSp_any (ds cs : List Lit) : ∀ (m j : Nat), m + j = cs.length → SubSp ds cs j
  | 0, j, h => by
    obtain rfl : j = cs.length := by omega
    exact subSp_end ds cs
  | m + 1, j, h => subSp_step ds cs j (by omega) (subSp_any ds cs m (j + 1) (by omega))
end Go.Proofs.YtglhbaigigdeeaaGreat
/- Items of which a call owns all memory, as pairs: what an item is, and the value of its slice. -/
namespace Go.Proofs.YtglhbaigigdeeaaGreat
set_option maxRecDepth 100000
open Go.RowKit

theorem D.owns_vals {w : World} {b : Nat} : ∀ (ds : List D) (off : Nat) (F : List Nat), D.owns w b off ds F → ∃ vs : List Value, vs.length = ds.length ∧ (∀ i (h : i < vs.length), w.cell? ⟨b, off + i, none⟩ = some vs[i]) ∧ OwnsL w vs ds F
  | [], off, F, h => by rw [D.owns] at h; exact ⟨[], rfl, by intro i h; simp at h, by rw [OwnsL]; exact h⟩
  | d :: ds, off, F, h => by
    rw [D.owns] at h
    obtain ⟨F1, F2, rfl, hd, ⟨v, q0, q1⟩, hr⟩ := h
    obtain ⟨vs, hl, hc, ho⟩ := D.owns_vals ds (off + 1) F2 hr
    refine ⟨v :: vs, by simp [hl], fun i hi => ?_, by rw [OwnsL]; exact ⟨F1, F2, rfl, hd, q1, ho⟩⟩
    cases i with
    | zero => simpa using q0
    | succ i =>
      have := hc i (by simpa using hi)
      rw [show off + 1 + i = off + (i + 1) by omega] at this
      simpa using this
theorem OwnsL.split {w : World} : ∀ (vs : List Value) (ds : List D) {us : List Value} {es : List D} {F : List Nat}, vs.length = ds.length → OwnsL w (vs ++ us) (ds ++ es) F → ∃ F1 F2, F = F1 ++ F2 ∧ (∀ x ∈ F1, x ∉ F2) ∧ OwnsL w vs ds F1 ∧ OwnsL w us es F2
  | [], [], us, es, F, _, h => ⟨[], F, rfl, by simp, OwnsL.nil w, h⟩
  | [], _ :: _, _, _, _, hl, _ => absurd hl (by simp)
  | _ :: _, [], _, _, _, hl, _ => absurd hl (by simp)
  | v :: vs, d :: ds, us, es, F, hl, h => by
    rw [List.cons_append, List.cons_append, OwnsL] at h
    obtain ⟨G1, G2, rfl, hd, h1, h2⟩ := h
    obtain ⟨F1, F2, rfl, hd2, h3, h4⟩ := OwnsL.split vs ds (by simpa using hl) h2
    refine ⟨G1 ++ F1, F2, by simp, fun x hx q => ?_, by rw [OwnsL]; exact ⟨G1, F1, rfl, fun x hx q => hd x hx (by simp [q]), h1, h3⟩, h4⟩
    rcases List.mem_append.1 hx with p | p
    · exact hd x p (by simp [q])
    · exact hd2 x p q
theorem items_sub {β : Type} {ev : β → List Value} {ed : β → List D} {w : World} (hl : ∀ p, (ev p).length = (ed p).length) {d d' : List β} (h : d'.Sublist d) : ∀ {F : List Nat}, OwnsL w (d.flatMap ev) (d.flatMap ed) F → ∃ F', OwnsL w (d'.flatMap ev) (d'.flatMap ed) F' ∧ ∀ x ∈ F', x ∈ F := by
  induction h with
  | slnil => intro F h; exact ⟨F, h, fun _ h => h⟩
  | cons p _ ih =>
    intro F h
    rw [List.flatMap_cons, List.flatMap_cons] at h
    obtain ⟨F1, F2, rfl, _, _, h2⟩ := OwnsL.split _ _ (hl p) h
    obtain ⟨F', h3, h4⟩ := ih h2
    exact ⟨F', h3, fun x hx => by simp [h4 x hx]⟩
  | cons_cons p _ ih =>
    intro F h
    rw [List.flatMap_cons, List.flatMap_cons] at h
    obtain ⟨F1, F2, rfl, hd, h1, h2⟩ := OwnsL.split _ _ (hl p) h
    obtain ⟨F', h3, h4⟩ := ih h2
    refine ⟨F1 ++ F', ?_, fun x hx => ?_⟩
    · rw [List.flatMap_cons, List.flatMap_cons]
      exact h1.append h3 fun x hx q => hd x hx (h4 x q)
    · rcases List.mem_append.1 hx with q | q
      · simp [q]
      · simp [h4 x q]
theorem items_perm {β : Type} {ev : β → List Value} {ed : β → List D} {w : World} (hl : ∀ p, (ev p).length = (ed p).length) {d d' : List β} (h : d.Perm d') : ∀ {F : List Nat}, OwnsL w (d.flatMap ev) (d.flatMap ed) F → ∃ F', OwnsL w (d'.flatMap ev) (d'.flatMap ed) F' ∧ ∀ x ∈ F', x ∈ F := by
  induction h with
  | nil => intro F h; exact ⟨F, h, fun _ h => h⟩
  | cons p _ ih =>
    intro F h
    rw [List.flatMap_cons, List.flatMap_cons] at h
    obtain ⟨F1, F2, rfl, hd, h1, h2⟩ := OwnsL.split _ _ (hl p) h
    obtain ⟨F', h3, h4⟩ := ih h2
    refine ⟨F1 ++ F', ?_, fun x hx => ?_⟩
    · rw [List.flatMap_cons, List.flatMap_cons]
      exact h1.append h3 fun x hx q => hd x hx (h4 x q)
    · rcases List.mem_append.1 hx with q | q
      · simp [q]
      · simp [h4 x q]
  | swap p q l =>
    intro F h
    simp only [List.flatMap_cons] at h ⊢
    obtain ⟨F1, F2, rfl, hd, h1, h2⟩ := OwnsL.split _ _ (hl _) h
    obtain ⟨F3, F4, rfl, hd2, h3, h4⟩ := OwnsL.split _ _ (hl _) h2
    refine ⟨F3 ++ (F1 ++ F4), h3.append (h1.append h4 fun x hx q => hd x hx (by simp [q])) fun x hx q => ?_, fun x hx => by simp only [List.mem_append] at hx ⊢; rcases hx with q | q | q <;> simp [q]⟩
    rcases List.mem_append.1 q with q | q
    · exact hd x q (by simp [hx])
    · exact hd2 x hx q
  | trans _ _ ih1 ih2 =>
    intro F h
    obtain ⟨F', h3, h4⟩ := ih1 h
    obtain ⟨F'', h5, h6⟩ := ih2 h3
    exact ⟨F'', h5, fun x hx => h4 x (h6 x hx)⟩

/-- a row of known cells, all of which may be written -/
def RowAt (w : World) (b off : Nat) (e : TypeId) (vs : List Value) : Prop := ∃ cur, w.heap[b]? = some (.cells cur e (0, 0)) ∧ ∀ i (h : i < vs.length), cur[off + i]? = some vs[i]
theorem RowAt.cell {w : World} {b off : Nat} {e : TypeId} {vs : List Value} (h : RowAt w b off e vs) {i : Nat} (hi : i < vs.length) : w.cell? ⟨b, off + i, none⟩ = some vs[i] := by
  obtain ⟨cur, h0, h1⟩ := h
  simp [World.cell?, h0, h1 i hi]
theorem RowAt.free {w : World} {b off : Nat} {e : TypeId} {vs : List Value} (h : RowAt w b off e vs) (p : Nat) : w.frozen? ⟨b, p, none⟩ = false := by
  obtain ⟨cur, h0, h1⟩ := h
  simp [World.frozen?, h0]
theorem RowAt.lt {w : World} {b off : Nat} {e : TypeId} {vs : List Value} (h : RowAt w b off e vs) : b < w.heap.size := by
  obtain ⟨cur, h0, h1⟩ := h
  exact lt_of_heap h0
theorem RowAt.set {w : World} {b off : Nat} {e : TypeId} {vs : List Value} (h : RowAt w b off e vs) {i : Nat} (hi : i < vs.length) (u : Value) : RowAt (w.setCell ⟨b, off + i, none⟩ u) b off e (vs.set i u) := by
  obtain ⟨cur, h0, h1⟩ := h
  refine ⟨_, heap_setCell h0 u, fun k hk => ?_⟩
  rw [List.length_set] at hk
  have hk' := h1 k hk
  rw [Array.getElem?_setIfInBounds, List.getElem_set]
  have hki := h1 i hi
  have hlt : off + i < cur.size := (Array.getElem?_eq_some_iff.1 hki).1
  by_cases q : i = k
  · subst q; simp [hlt]
  · rw [if_neg (by omega), if_neg q]; exact hk'
theorem RowAt.keep {w w' : World} {b off : Nat} {e : TypeId} {vs : List Value} (h : RowAt w b off e vs) (hk : Keeps (· = b) w w') : RowAt w' b off e vs := by
  have hl := h.lt
  obtain ⟨cur, h0, h1⟩ := h
  exact ⟨cur, (hk.block b rfl hl).trans h0, h1⟩
/-- an owned slice: its row, and what the row's cells own -/
theorem own_row {w : World} {a : Option Addr} {n m cap : Nat} {ds : List D} {F : List Nat} (h : D.own w (.slice a n cap) (.sl m ds) F) (hne : ds ≠ []) : ∃ b off e vs F', a = some ⟨b, off, none⟩ ∧ F = b :: F' ∧ b ∉ F' ∧ RowAt w b off e vs ∧ vs.length = ds.length ∧ OwnsL w vs ds F' := by
  rw [D.own] at h
  obtain ⟨a', cap', e, h1, h2, h3, h4⟩ := h
  injection e with e0 e1 e2
  subst e0 e1 e2
  rcases h4 with ⟨h4, _⟩ | ⟨_, b, off, F', cur, e, q0, q1, rfl, q3, q4⟩
  · exact absurd h4 hne
  obtain ⟨vs, hl, hc, ho⟩ := D.owns_vals _ _ _ q4
  refine ⟨b, off, e, vs, F', q0, rfl, q3, ⟨cur, q1, fun i hi => ?_⟩, hl, ho⟩
  have := hc i hi
  simpa [World.cell?, q1] using this
/-- .. and back, the row being longer perhaps -/
theorem row_own {w : World} {b off n cap : Nat} {e : TypeId} {vs us : List Value} {ds : List D} {F : List Nat} (hr : RowAt w b off e vs) (ho : OwnsL w us ds F) (hb : b ∉ F) (hu : ∀ i (h : i < us.length), vs[i]? = some us[i]) (hn : n ≤ big) (hc : n ≤ cap) (h0 : n ≠ 0 → ds ≠ []) : ∃ G, D.own w (.slice (some ⟨b, off, none⟩) n cap) (.sl n ds) G ∧ ∀ x ∈ G, x = b ∨ x ∈ F := by
  by_cases hd : ds = []
  · subst hd
    exact ⟨[], by rw [D.own]; exact ⟨_, _, rfl, hn, hc, h0, .inl ⟨rfl, rfl⟩⟩, by simp⟩
  · have hrr := hr
    obtain ⟨cur, q0, q1⟩ := hr
    refine ⟨b :: F, ?_, fun x hx => by simpa using hx⟩
    rw [D.own]
    refine ⟨_, _, rfl, hn, hc, h0, .inr ⟨hd, b, off, F, cur, e, rfl, q0, rfl, hb, ho.owns off fun i hi => ?_⟩⟩
    have hui := hu i hi
    obtain ⟨hl, he⟩ := List.getElem?_eq_some_iff.1 hui
    rw [← he]
    exact hrr.cell hl
end Go.Proofs.YtglhbaigigdeeaaGreat
