/- RestrictSubstitution: the program's and the reference's. -/
import Derived.Test.YtoblhgaohmfjeaaDf
import Derived.Test.YtoblhgaohmfjeaaSw
import Derived.Test.YtoblhgaohmfjeaaMb
namespace Go.Proofs.Ytoblhgaohmfjeaa
set_option maxRecDepth 100000
open Go.RowKit

theorem zeroBnd (w : World) : (zeroValue 68).run Try.prog w = .ok (.agg #[.string ByteArray.empty, .string ByteArray.empty, .slice none 0 0]) w := by kernel_rfl

theorem oneBnd : ∀ v ∈ (Value.agg #[.string ByteArray.empty, .string ByteArray.empty, .slice none 0 0]).cells.toList, v.oneCell' = true := by
  intro u hu
  simp [Value.cells] at hu
  rcases hu with rfl | rfl <;> rfl
set_option maxHeartbeats 4000000 in
theorem deleteBnd_any {xs : List Bnd} {v : Value} {F : List Nat} {vb : Nat} {ss : List ByteArray} {w : World} (ho : D.own w v (Bnd.sd xs) F) (hv : VarsAt w vb ss) (hvF : vb ∉ F) (hsF : ∀ u, w.cell? ⟨vb, 0, none⟩ = some u → D.rd (fun y => y < w.heap.size ∧ y ∉ F) w u (slOf strE ss)) :
    Calls Try.prog 46 #[v, .func (.func 47) #[] #[.pointer (some ⟨vb, 0, none⟩)]] w fun e w' => ∃ v' F', e = .returned v' ∧ D.own w' v' (Bnd.sd (xs.filter fun x => hasStr ss x.var)) F' ∧ (∀ y ∈ F', y ∈ F) ∧ Mk F w w' := by
  have hI := indexBnd_any (D.own_rd _ _ _ ho) hv
  obtain ⟨a, cap, rfl⟩ := Bnd.sd_own_form ho
  have hlen : xs.length ≤ 9223372036854775807 := by rw [Bnd.sd_css, D.own] at ho; obtain ⟨_, _, _, h, _⟩ := ho; exact h
  have hcap : xs.length ≤ cap := by rw [Bnd.sd_css, D.own] at ho; obtain ⟨_, _, e, _, h, _⟩ := ho; injection e with _ _ e; subst e; exact h
  have HO := hid ho
  have HV := hid hv
  have HSF := hid hsF
  clear ho hv hsF
  go_enter Try.func46, Try.ntmps46
  go_wp2_with fail
  refine hI.mono ?_
  rintro e w1 ⟨r, rfl, hr, hb1⟩
  rcases hr with ⟨rfl, hall⟩ | ⟨k0, rfl, hk0, hp0, hall⟩
  · have HF : Hid (xs.filter (fun x => hasStr ss x.var) = xs) := by
      rw [Hid, List.filter_eq_self]
      intro x hx
      obtain ⟨j, hj, rfl⟩ := List.mem_iff_getElem.1 hx
      have := hall j hj
      simpa using this
    clear hI hall
    go_wp2_with fail
    go_ret
    exact ⟨_, F, rfl, by rw [HF.out]; exact D.own_keep _ _ _ (Keeps.all hb1) HO.out, fun _ h => h, Mk.of_below hb1⟩
  · have hne : xs ≠ [] := by intro e; subst e; simp at hk0
    have ho := HO.out
    rw [Bnd.sd_css] at ho
    obtain ⟨b, off, ty, vs, F', rfl, rfl, hbF, hrow, hvl, hol⟩ := own_row ho (Bnd.css_ne hne)
    obtain ⟨d, hd, hvd, hds⟩ := Bnd.items xs vs F' hol
    have hdl : d.length = xs.length := by rw [← hd]; simp
    have HD : Hid (∀ j (h : j < d.length) (h' : j < xs.length), d[j].1 = xs[j]) := fun j h h' => by subst hd; simp
    have HDS := hid hds
    have hbl := hrow.lt
    have HROW : Hid (RowAt w1 b off ty (d.flatMap Bnd.ev)) := by rw [← hvd]; exact hrow.keep (Keeps.of_below hb1 fun y hy hl => hl)
    have HOL : Hid (OwnsL w (d.flatMap Bnd.ev) (d.flatMap Bnd.ed) F') := by rw [Hid, Bnd.flat_ed, hd, ← hvd]; exact hol
    have HK0 : Hid (KInv (fun q : Bnd × Value => hasStr ss q.1.var) d (k0 + 1) k0 d) := KInv.start (by omega) (fun j h h' => by
      show hasStr ss d[j].1.var = true
      rw [HD.out j h (by omega)]
      have := hall j (by omega) h'
      simpa using this) (by
      show hasStr ss d[k0].1.var = false
      rw [HD.out k0 (by omega) hk0]
      simpa using hp0)
    have HM1 : Hid (Mk [b] w w1) := Mk.of_below hb1
    have hvb : vb ≠ b := fun e => hvF (by simp [e])
    have hkz : ((k0 : Int) == -1) = false := by rw [beq_eq_false_iff_ne]; omega
    clear hI hall hp0 hol hvd hrow ho hd hds hvl
    go_wp2_with fail
    go_loopw [5, 6, 7] (fun x i _ wr => ∃ (i' j : Nat) (E : List (Bnd × Value)), x = .int .i64 i' ∧ i = .int .i64 j ∧ j ≤ xs.length ∧ Hid (KInv (fun q : Bnd × Value => hasStr ss q.1.var) d j i' E) ∧ Hid (RowAt wr b off ty (E.flatMap Bnd.ev)) ∧ Hid (Mk [b] w wr)) (fun _ i _ _ => xs.length - (intOf i).toNat)
    case atStart => exact ⟨k0, k0 + 1, d, rfl, by go_num, by omega, HK0, HROW, HM1⟩
    case round =>
      obtain ⟨i, j, E, rfl, rfl, hj, HK, HR, HM⟩ := hrel
      have hEl : E.length = d.length := HK.out.1
      have hij : i < j := HK.out.2.2.2.2.1
      have hbr : b < wr.heap.size := Nat.lt_of_lt_of_le hbl HM.out.size
      by_cases hlt : j < xs.length
      · have hjE : j < E.length := by omega
        have hiE : i < E.length := by omega
        have hjd : j < d.length := by omega
        have hEd := HK.out.at hjd hjE
        obtain ⟨g0, g1, g2⟩ := Bnd.ev_get E j hjE
        obtain ⟨f0, f1, f2⟩ := Bnd.ev_get E i hiE
        rw [hEd] at g0 g1 g2
        obtain ⟨q, HQ⟩ : ∃ q : Bnd × Value, Hid (d[j] = q) := ⟨_, hid rfl⟩
        rw [HQ.out] at g0 g1 g2
        have hqm : q ∈ d := by rw [← HQ.out]; exact List.getElem_mem hjd
        obtain ⟨-, -, za, zc, hqa⟩ := HDS.out q hqm
        obtain ⟨qx, qa⟩ := q
        simp only at g0 g1 g2 hqa
        subst hqa
        clear hqm
        have hl3 := Bnd.ev_length E
        have cellOf : ∀ p u, (E.flatMap Bnd.ev)[p]? = some u → wr.cell? ⟨b, off + p, none⟩ = some u := fun p u h => by
          obtain ⟨hp, he⟩ := List.getElem?_eq_some_iff.1 h
          rw [← he]; exact HR.out.cell hp
        have c0 : wr.cell? ⟨b, off + j * 3, none⟩ = some (.string qx.var) := cellOf _ _ g0
        have c1 : wr.cell? ⟨b, off + j * 3 + 1, none⟩ = some (.string qx.term.name) := cellOf (j * 3 + 1) _ g1
        have c2 : wr.cell? ⟨b, off + j * 3 + 2, none⟩ = some (.slice za qx.term.args.length zc) := cellOf (j * 3 + 2) _ g2
        have hA : Below wr.heap.size wr (wr.alloc (.cells #[.string qx.var, .string qx.term.name, .slice za qx.term.args.length zc] 68)) := (Below.refl _ _).alloc (Nat.le_refl _) _
        have hMA : Mk [b] w (wr.alloc (.cells #[.string qx.var, .string qx.term.name, .slice za qx.term.args.length zc] 68)) := HM.out.trans (Mk.of_below hA)
        have hvk : VarsAt (wr.alloc (.cells #[.string qx.var, .string qx.term.name, .slice za qx.term.args.length zc] 68)) vb ss := by
          obtain ⟨u, h0, h1, hl⟩ := HV.out
          have h2 := HSF.out u h0
          refine ⟨u, (hMA.1.cell (b := vb) (by simpa using hvb) hl).trans h0, ?_, Nat.lt_of_lt_of_le hl hMA.size⟩
          exact D.rd_mono (fun y hy => Nat.lt_of_lt_of_le hy.1 hMA.size) _ _ (D.rd_keep (hMA.1.mono fun y hy => by have := hy.2; simp at this; simpa using this.1) _ _ h2)
        have hq := restrict1_any (x := qx) (c := .slice za qx.term.args.length zc) hvk
        have HHA := hid hA
        clear cellOf g0 g1 g2 f0 f1 f2 hMA hvk hA
        go_wp2_with fail
        refine hq.mono ?_
        rintro e w2 ⟨_, rfl, hb2, rfl⟩
        have hb3 : Below wr.heap.size wr w2 := HHA.out.trans (hb2.mono HHA.out.size)
        have HM3 : Hid (Mk [b] w w2) := HM.out.trans (Mk.of_below hb3)
        have HR3 : Hid (RowAt w2 b off ty (E.flatMap Bnd.ev)) := HR.out.keep (Keeps.of_below hb3 fun y hy hl => by rw [hy]; exact hbr)
        have hbE : Box w2 wr.heap.size [.string qx.var, .string qx.term.name, .slice za qx.term.args.length zc] := (Box.new wr [.string qx.var, .string qx.term.name, .slice za qx.term.args.length zc] 68).keep hb2
        by_cases hp : hasStr ss qx.var = true
        · have HKK : Hid (KInv (fun q : Bnd × Value => hasStr ss q.1.var) d (j + 1) (i + 1) (E.set i (qx, .slice za qx.term.args.length zc))) := by
            have := HK.out.keep hjd (by show hasStr ss d[j].1.var = true; rw [HQ.out]; exact hp)
            rwa [HQ.out] at this
          have eE0 := hbE.c0
          have eE1 := hbE.c1
          have eE2 := hbE.c2
          have r0 := HR3.out.cell (i := i * 3) (by omega)
          have r1 := HR3.out.cell (i := i * 3 + 1) (by omega)
          have r2 := HR3.out.cell (i := i * 3 + 2) (by omega)
          rw [← Nat.add_assoc] at r1 r2
          have fr := HR3.out.free
          have fr0 := fr (off + i * 3)
          have fr1 := fr (off + i * 3 + 1)
          have fr2 := fr (off + i * 3 + 2)
          have HR4 : Hid (RowAt (((w2.setCell ⟨b, off + i * 3, none⟩ (.string qx.var)).setCell ⟨b, off + i * 3 + 1, none⟩ (.string qx.term.name)).setCell ⟨b, off + i * 3 + 2, none⟩ (.slice za qx.term.args.length zc)) b off ty ((E.set i (qx, .slice za qx.term.args.length zc)).flatMap Bnd.ev)) := by
            have h1 := HR3.out.set (i := i * 3) (by omega) (.string qx.var)
            have h2 := h1.set (i := i * 3 + 1) (by rw [List.length_set]; omega) (.string qx.term.name)
            have h3 := h2.set (i := i * 3 + 2) (by rw [List.length_set, List.length_set]; omega) (.slice za qx.term.args.length zc)
            have := Bnd.ev_set E i (qx, .slice za qx.term.args.length zc) hiE
            simp only at this
            rw [this] at h3
            exact h3
          have HM4 : Hid (Mk [b] w (((w2.setCell ⟨b, off + i * 3, none⟩ (.string qx.var)).setCell ⟨b, off + i * 3 + 1, none⟩ (.string qx.term.name)).setCell ⟨b, off + i * 3 + 2, none⟩ (.slice za qx.term.args.length zc))) := ((HM3.out.trans (Mk.set (List.mem_cons_self ..) _)).trans (Mk.set (List.mem_cons_self ..) _)).trans (Mk.set (List.mem_cons_self ..) _)
          rw [hp]
          clear hp fr hbE
          generalize (E.flatMap Bnd.ev)[i * 3]'(by omega) = o0 at r0
          generalize (E.flatMap Bnd.ev)[i * 3 + 1]'(by omega) = o1 at r1
          generalize (E.flatMap Bnd.ev)[i * 3 + 2]'(by omega) = o2 at r2
          go_wp2_with fail
          go_roundw
          case rel => exact ⟨i + 1, j + 1, E.set i (qx, .slice za qx.term.args.length zc), by go_num, by go_num, by omega, HKK, HR4, HM4⟩
          case measure => simp [intOf]; omega
        · replace hp : hasStr ss qx.var = false := by simpa using hp
          have HKK : Hid (KInv (fun q : Bnd × Value => hasStr ss q.1.var) d (j + 1) i E) := HK.out.skip hjd (by show hasStr ss d[j].1.var = false; rw [HQ.out]; exact hp)
          rw [hp]
          clear hp hbE
          go_wp2_with fail
          go_roundw
          case rel => exact ⟨i, j + 1, E, rfl, by go_num, by omega, HKK, HR3, HM3⟩
          case measure => simp [intOf]; omega
      · obtain rfl : j = xs.length := by omega
        have hl3 := Bnd.ev_length E
        obtain ⟨us, hul, hcl⟩ := run_clear_rows (P := Try.prog) wr 45 68 _ 3 Try.underlying45 zeroBnd rfl (by decide) oneBnd b (off + i * 3) (xs.length - i) (cap - i) (by omega) (fun q hq => by
          rw [Nat.add_assoc, HR.out.cell (i := i * 3 + q) (by omega)]; rfl) (fun q hq => HR.out.free _)
        obtain ⟨E', hE', hEl', hEt⟩ := RowAt.setCells us (s := i * 3) HR.out (by rw [hul, hl3]; omega)
        have HE' := hid hE'
        have HMU : Hid (Mk [b] w (wr.setCells b (off + i * 3) us)) := HM.out.trans (Mk.setCells (List.mem_cons_self ..) _ _ _)
        have hfil : (E.take i) = d.filter fun q : Bnd × Value => hasStr ss q.1.var := by
          have := HK.out.2.2.1
          rw [← hdl, List.take_length] at this
          exact this
        have hil : i ≤ E.length := by omega
        obtain ⟨F2, hO2, hF2⟩ := items_sub Bnd.ev_ed (List.filter_sublist (p := fun q : Bnd × Value => hasStr ss q.1.var) (l := d)) HOL.out
        have hO3 := hO2.keep (w' := wr.setCells b (off + i * 3) us) (HMU.out.1.mono fun y hy => by
          have hyb : y ≠ b := fun e => hbF (e ▸ hF2 y hy)
          simpa using hyb)
        have hmap : (d.filter fun q : Bnd × Value => hasStr ss q.1.var).map Prod.fst = xs.filter fun x => hasStr ss x.var := by
          have hdx : d.map Prod.fst = xs := by
            apply List.ext_getElem (by rw [List.length_map]; exact hdl)
            intro n h1 h2
            rw [List.getElem_map]
            exact HD.out n (by simpa using h1) h2
          rw [← hdx, List.filter_map]; rfl
        rw [Bnd.flat_ed, hmap] at hO3
        have hil2 : (xs.filter fun x => hasStr ss x.var).length = i := by rw [← hmap, List.length_map, ← hfil, List.length_take]; omega
        obtain ⟨G, hG, hGs⟩ := row_own (n := i) (cap := cap) HE'.out hO3 (fun q => hbF (hF2 _ q)) (fun p hp => by
          have hp2 := hp
          rw [← hfil, Bnd.ev_length, List.length_take] at hp2
          rw [← List.getElem?_eq_getElem hp, ← hfil, hEt p (by omega), Bnd.ev_take E i p (by omega)]) (by unfold big; omega) (by omega) (fun h0 => by
          refine Bnd.css_ne ?_
          intro e; rw [e] at hil2; simp at hil2; omega)
        have HG : Hid (D.own (wr.setCells b (off + i * 3) us) (.slice (some ⟨b, off, none⟩) i cap) (Bnd.sd (xs.filter fun x => hasStr ss x.var)) G) := by
          rw [Hid, Bnd.sd_css, hil2]; exact hG
        have HGF : Hid (∀ y ∈ G, y ∈ b :: F') := fun y hy => by
          rcases hGs y hy with rfl | q
          · simp
          · simp [hF2 y q]
        have hni : 0 < xs.length - i := by omega
        have hcz : i ≤ cap := by omega
        clear hG hO3 hO2 hE' hEt hfil hmap hil2
        go_wp2_with fail
        go_ret
        exact ⟨_, G, rfl, HG.out, HGF.out, HMU.out.mono (by simp)⟩

/-- the bindings of some variables -/
def restR (s : Sb) (ss : List ByteArray) : Sb := if s.valid = true then ⟨s.bs.filter fun x => hasStr ss x.var⟩ else ⟨[]⟩
theorem Bnd.bulks_filter (p : Bnd → Bool) : ∀ xs : List Bnd, (xs.filter p).length + Bnd.bulks (xs.filter p) ≤ xs.length + Bnd.bulks xs
  | [] => Nat.le_refl _
  | x :: xs => by
    have ih := Bnd.bulks_filter p xs
    rw [List.filter_cons]
    split
    · simp only [List.length_cons, Bnd.bulks]; omega
    · simp only [List.length_cons, Bnd.bulks]; omega
theorem restR_bulk (s : Sb) (ss : List ByteArray) (h : s.bulk ≤ 1048576) : (restR s ss).bulk ≤ 1048576 := by
  unfold restR
  split
  · have := Bnd.bulks_filter (fun x => hasStr ss x.var) s.bs
    rw [Sb.bulk] at h ⊢
    simp only
    omega
  · simp [Sb.bulk, Bnd.bulks]

set_option maxHeartbeats 4000000 in
theorem impl_RestrictSubstitution {s : Sb} {ss : List ByteArray} {S S' : Nat → Prop} {c0 v : Value} {w : World} (hs : Sb.at S w c0 s) (hbs : s.bulk ≤ 1048576) (hv : D.rd S' w v (slOf strE ss)) (_ : strBulk ss ≤ 1048576) :
    Calls Try.prog 20 #[.agg #[c0], v] w (OutD (fun v => .agg #[v]) (Bnd.sd (restR s ss).bs) s.valid w) := by
  obtain ⟨a, cap, rfl⟩ := Sb.at_form hs
  obtain ⟨va, vc, rfl, hvn, hvc⟩ := slOf_form hv
  have HVL := hid (D.rd_lt _ _ hv)
  have HS0 := hid (Sb.at_lt hs)
  clear hs hv
  have hW : Below w.heap.size w (((w.alloc (.cells #[.slice a s.bs.length cap] 47)).alloc (.cells #[.slice va ss.length vc] 42)).alloc (.cells #[.slice none 0 0] 47)) := (((Below.refl _ _).alloc (Nat.le_refl _) _).alloc (by simp) _).alloc (by simp; omega) _
  have bs : Box (((w.alloc (.cells #[.slice a s.bs.length cap] 47)).alloc (.cells #[.slice va ss.length vc] 42)).alloc (.cells #[.slice none 0 0] 47)) w.heap.size [.slice a s.bs.length cap] := ((Box.new w [Value.slice a s.bs.length cap] 47).alloc _).alloc _
  have bv : Box (((w.alloc (.cells #[.slice a s.bs.length cap] 47)).alloc (.cells #[.slice va ss.length vc] 42)).alloc (.cells #[.slice none 0 0] 47)) (w.heap.size + 1) [.slice va ss.length vc] := by
    have := (Box.new (w.alloc (.cells #[.slice a s.bs.length cap] 47)) [Value.slice va ss.length vc] 42).alloc (.cells #[.slice none 0 0] 47)
    simpa only [World.size_alloc] using this
  have br : Box (((w.alloc (.cells #[.slice a s.bs.length cap] 47)).alloc (.cells #[.slice va ss.length vc] 42)).alloc (.cells #[.slice none 0 0] 47)) (w.heap.size + 1 + 1) [.slice none 0 0] := by
    have := Box.new ((w.alloc (.cells #[.slice a s.bs.length cap] 47)).alloc (.cells #[.slice va ss.length vc] 42)) [Value.slice none 0 0] 47
    simpa only [World.size_alloc] using this
  have fr : (((w.alloc (.cells #[.slice a s.bs.length cap] 47)).alloc (.cells #[.slice va ss.length vc] 42)).alloc (.cells #[.slice none 0 0] 47)).frozen? ⟨w.heap.size + 1 + 1, 0, none⟩ = false := World.frozen?_alloc_at _ _ _ 0 (by simp)
  have hw3 : w.heap.size + 3 ≤ (((w.alloc (.cells #[.slice a s.bs.length cap] 47)).alloc (.cells #[.slice va ss.length vc] 42)).alloc (.cells #[.slice none 0 0] 47)).heap.size := by simp
  go_enter Try.func20, Try.ntmps20
  go_wp2_with fail
  generalize (((w.alloc (.cells #[.slice a s.bs.length cap] 47)).alloc (.cells #[.slice va ss.length vc] 42)).alloc (.cells #[.slice none 0 0] 47)) = w0 at *
  have HSW := hid (Sb.at_keep (Keeps.all hW) HS0.out)
  refine (impl_IsValidSubstitution HSW.out hbs).mono ?_
  rintro e w1 ⟨_, rfl, hb, rfl⟩
  replace hW := hW.trans (hb.mono hW.size)
  replace bs := bs.keep hb
  replace bv := bv.keep hb
  replace fr := (hb.frozen (p := ⟨w.heap.size + 1 + 1, 0, none⟩) br.lt).trans fr
  replace br := br.keep hb
  replace hw3 := Nat.le_trans hw3 hb.size
  clear hb HSW
  have es := bs.c0
  have er := br.c0
  have ls := bs.lt
  have lr := br.lt
  by_cases hval : s.valid = true
  · have HR : Hid ((restR s ss).bs = s.bs.filter fun x => hasStr ss x.var) := by rw [Hid, restR, if_pos hval]
    have HVV := hid hval
    rw [hval]
    clear hval
    have HSW := hid (Sb.at_keep (Keeps.all hW) HS0.out)
    go_wp2_with fail
    clear es er ls lr
    refine (copySb_any s _ _ _ HSW.out hbs).mono ?_
    rintro e w2 ⟨v1, F, rfl, ho, hF, hb⟩
    have hl1 := hb.size
    have hFl := D.own_lt _ _ _ ho
    obtain ⟨oa, oc, rfl⟩ := Bnd.sd_own_form ho
    replace hW := hW.trans (hb.mono hW.size)
    replace bv := bv.keep hb
    replace fr := (hb.frozen (p := ⟨w.heap.size + 1 + 1, 0, none⟩) br.lt).trans fr
    replace br := br.keep hb
    have hA : Below w2.heap.size w2 (w2.alloc (.cells #[.slice oa s.bs.length oc] 47)) := (Below.refl _ _).alloc (Nat.le_refl _) _
    have bo : Box (w2.alloc (.cells #[.slice oa s.bs.length oc] 47)) w2.heap.size [.slice oa s.bs.length oc] := Box.new _ _ _
    have fo : (w2.alloc (.cells #[.slice oa s.bs.length oc] 47)).frozen? ⟨w2.heap.size, 0, none⟩ = false := World.frozen?_alloc_at _ _ _ 0 rfl
    replace hW := hW.trans (hA.mono hW.size)
    replace bv := bv.keep hA
    replace fr := (hA.frozen (p := ⟨w.heap.size + 1 + 1, 0, none⟩) br.lt).trans fr
    replace br := br.keep hA
    have ho2 := D.own_keep _ _ _ (Keeps.all hA) ho
    have hF3 : ∀ y ∈ F, w.heap.size + 3 ≤ y := fun y hy => by have := hF y hy; omega
    have hvb : VarsAt (w2.alloc (.cells #[.slice oa s.bs.length oc] 47)) (w.heap.size + 1) ss := ⟨_, bv.c0, D.rd_mono (fun y hy => Nat.lt_of_lt_of_le hy hW.size) _ _ (D.rd_keep (Keeps.all hW) _ _ HVL.out), bv.lt⟩
    have hq := deleteBnd_any ho2 hvb (fun q => by have := hF3 _ q; omega) (fun u hu => by
      rw [bv.c0] at hu
      injection hu with hu
      subst hu
      exact D.rd_mono (fun y hy => ⟨Nat.lt_of_lt_of_le hy hW.size, fun q => by have := hF3 y q; omega⟩) _ _ (D.rd_keep (Keeps.all hW) _ _ HVL.out))
    have HF3 := hid hF3
    have n6 : w2.heap.size ∉ F := fun q => by have := hFl _ q; omega
    have n2 : w.heap.size + 1 + 1 ∉ F := fun q => by have := hF3 _ q; omega
    clear ho ho2 hF hFl hF3 hvb hb hA
    go_wp2_with fail
    refine hq.mono ?_
    rintro e w3 ⟨v3, F3, rfl, ho3, hs3, hm3⟩
    have hm3s := hm3.size
    simp only [World.size_alloc] at hm3s
    replace bo := bo.marked hm3 n6
    have fo3 : w3.frozen? ⟨w2.heap.size, 0, none⟩ = false := (World.frozen?_of_block (a := ⟨w2.heap.size, 0, none⟩) (hm3.1.block _ n6 (by simp))).trans fo
    replace fr := (World.frozen?_of_block (a := ⟨w.heap.size + 1 + 1, 0, none⟩) (hm3.1.block _ n2 br.lt)).trans fr
    replace br := br.marked hm3 n2
    replace hW := hW.trans (hm3.2 _ hW.size (fun y hy => by have := HF3.out y hy; omega))
    obtain ⟨ra, rc, rfl⟩ := Bnd.sd_own_form ho3
    have HO3 := hid ho3
    have eo := bo.c0
    have lo := bo.lt
    have er := br.c0
    have lr := br.lt
    clear ho3 fo
    go_wp2_with fail
    refine bodyPost_ret (v := .tuple #[.agg #[.slice ra (s.bs.filter fun x => hasStr ss x.var).length rc], .bool true]) (by simp [results, Try.results20, go_sem, er]) rfl ?_
    exact ⟨_, F3, by rw [HVV.out], by rw [HR.out]; exact D.own_keep _ _ _ (((Keeps.refl _ _).setCell (fun q _ => n6 (hs3 _ q)) _).setCell (fun q _ => n2 (hs3 _ q)) _) HO3.out, fun y hy => by have := HF3.out y (hs3 y hy); omega, (hW.setCell (p := ⟨w2.heap.size, 0, none⟩) (by show w.heap.size ≤ w2.heap.size; omega) _).setCell (p := ⟨w.heap.size + 1 + 1, 0, none⟩) (by show w.heap.size ≤ w.heap.size + 1 + 1; omega) _⟩
  · replace hval : s.valid = false := by simpa using hval
    have HR : Hid ((restR s ss).bs = []) := by rw [Hid, restR, hval]; rfl
    have HVV := hid hval
    rw [hval]
    clear hval
    go_wp2_with fail
    refine bodyPost_ret (v := .tuple #[.agg #[.slice none 0 0], .bool false]) (by simp [results, Try.results20, go_sem, er]) rfl ?_
    exact ⟨_, [], by rw [HVV.out], by rw [HR.out, Bnd.sd_css]; exact D.own_nil _ _, by simp, hW.setCell (p := ⟨w.heap.size + 1 + 1, 0, none⟩) (by show w.heap.size ≤ w.heap.size + 1 + 1; omega) _⟩
end Go.Proofs.Ytoblhgaohmfjeaa
