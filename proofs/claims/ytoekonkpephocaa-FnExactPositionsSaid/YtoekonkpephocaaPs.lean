/- The positions of a term: the program's. -/
import Derived.Test.YtoekonkpephocaaIs
import Derived.Test.YtoekonkpephocaaGi
import Derived.Test.YtoekonkpephocaaTv
import Derived.Deep.Upon
namespace Go.Proofs.Ytoekonkpephocaa
set_option maxRecDepth 100000
open Go.RowKit

mutual
/-- the positions of a term, in preorder -/
def Tm.poss : Tm → List (List Int)
  | .node _ ts => [] :: Tm.possL ts 0
def Tm.possL : List Tm → Nat → List (List Int)
  | [], _ => []
  | t :: ts, k => (Tm.poss t).map (fun p => (k : Int) :: p) ++ Tm.possL ts (k + 1)
end
theorem Tm.poss_eq (t : Tm) : t.poss = [] :: Tm.possL t.args 0 := by cases t; rw [Tm.poss]; rfl
theorem Tm.possL_take : ∀ (ts : List Tm) (j k : Nat) (h : j < ts.length), Tm.possL (ts.take (j + 1)) k = Tm.possL (ts.take j) k ++ (Tm.poss ts[j]).map (fun p => ((k + j : Nat) : Int) :: p)
  | [], j, k, h => absurd h (by simp)
  | t :: ts, 0, k, _ => by simp [Tm.possL]
  | t :: ts, j + 1, k, h => by
    have := Tm.possL_take ts j (k + 1) (by simpa using h)
    simp only [List.take_succ_cons, Tm.possL, List.getElem_cons_succ, List.append_assoc]
    rw [this, show k + 1 + j = k + (j + 1) by omega]
theorem Tm.poss_length (t : Tm) : t.poss.length = t.size := by
  refine Tm.ind (P := fun t => t.poss.length = t.size) (fun n ts ih => ?_) t
  rw [Tm.poss, Tm.size]
  have key : ∀ ts : List Tm, (∀ a ∈ ts, a.poss.length = a.size) → ∀ k, (Tm.possL ts k).length = Tm.sizes ts := by
    intro ts
    induction ts with
    | nil => intro _ k; simp [Tm.possL, Tm.sizes]
    | cons t ts iht =>
      intro h k
      rw [Tm.possL, Tm.sizes, List.length_append, List.length_map, h t (by simp), iht (fun a ha => h a (by simp [ha]))]
  rw [List.length_cons, key ts ih 0]; omega
theorem Tm.poss_deep (t : Tm) : ∀ p ∈ t.poss, p.length ≤ t.bulk := by
  refine Tm.ind (P := fun t => ∀ p ∈ t.poss, p.length ≤ t.bulk) (fun n ts ih p hp => ?_) t
  rw [Tm.poss] at hp
  rw [Tm.bulk]
  have key : ∀ ts : List Tm, (∀ a ∈ ts, ∀ p ∈ a.poss, p.length ≤ a.bulk) → ∀ k, ∀ p ∈ Tm.possL ts k, p.length ≤ ts.length + Tm.bulks ts := by
    intro ts
    induction ts with
    | nil => intro _ k p hp; simp [Tm.possL] at hp
    | cons t ts iht =>
      intro h k p hp
      rw [Tm.possL, List.mem_append] at hp
      rw [Tm.bulks, List.length_cons]
      rcases hp with q | q
      · obtain ⟨p', q1, rfl⟩ := List.mem_map.1 q
        have := h t (by simp) p' q1
        rw [List.length_cons]; omega
      · have := iht (fun a ha => h a (by simp [ha])) (k + 1) p q
        omega
  rcases List.mem_cons.1 hp with rfl | q
  · simp
  · have := key ts ih 0 p q; omega

/-- append(list, src...) of ints, wherever the source lies -/
theorem run_append_ints_any {w : World} {B : Nat} {ty : TypeId} {v src : Value} {xs ys : List Int} {S : Nat → Prop} (hrow : GI w B v xs) (hne : v ≠ .slice none 0 0) (hsrc : D.rd S w src (slOf intE ys)) (hn : xs.length + ys.length ≤ 4294967296) (hB : B ≤ w.heap.size) :
    ∃ v' w', (Builtin.append_ #[26, 26] ty #[v, src]).run Try.prog w = .ok v' w' ∧ GI w' B v' (xs ++ ys) ∧ w.grownBy w' v.ownBlock ∧ (v'.ownBlock = v.ownBlock ∨ v'.ownBlock = some w.heap.size) ∧ v' ≠ .slice none 0 0 := by
  obtain ⟨a, c, rfl, _, _⟩ := slOf_form hsrc
  by_cases h0 : ys = []
  · subst h0
    obtain ⟨i, hi, hz0, hz1, hz2⟩ := info_split infoIntS
    obtain ⟨va, vc, rfl, hl, hc⟩ := hrow.form
    refine ⟨_, w, ?_, by rw [List.append_nil]; exact hrow, ⟨rfl, rfl, rfl, Nat.le_refl _, fun _ _ _ => rfl⟩, .inl rfl, hne⟩
    refine run_append_nothing w 26 26 ty 3 i Try.underlying26 hi va xs.length vc hc _ ?_
    cases a with
    | none => exact Src.ofNil w Try.underlying26 c
    | some a => exact Src.ofSlice w Try.underlying26 a 0 c [] (by simp) (by simp) (by simp)
  · obtain ⟨b, off, rfl, _, _, _⟩ := ints_get hsrc h0
    obtain ⟨hcl, hi⟩ := ints_cells hsrc
    obtain ⟨v', w', q1, q2, q3, q4, q5⟩ := run_append_grs (ty := ty) (c := c) (news := ys.map (Value.int .i64)) (G := []) Try.underlying26 infoIntS rfl (by decide) (by decide) hrow (by simp) hcl (ints_one ys) (ownsL_ints ys hi) (by simp) (by simp) (by simp) hn hB
    exact ⟨v', w', q1, GI.appended q2, q3, q4, q5 hne⟩
theorem wpList_append_ints_any {ops : Array Oper} {rest : List Oper} {o : Oper} {a : Act} {w : World} {Q : Exit → Act → World → Prop} {B : Nat} (hgd : o.guard = none) (s x : Operand) (ho : o.op = .call { callee := .builtin .append, args := #[s, x], argTypes := #[26, 26] })
    {v src : Value} {xs ys : List Int} {S : Nat → Prop} (hs : a.eval s = v) (hx : a.eval x = src) (hrow : GI w B v xs) (hne : v ≠ .slice none 0 0) (hsrc : D.rd S w src (slOf intE ys)) (hn : xs.length + ys.length ≤ 4294967296) (hB : B ≤ w.heap.size)
    (h : ∀ v' w', GI w' B v' (xs ++ ys) → w.grownBy w' v.ownBlock → (v'.ownBlock = v.ownBlock ∨ v'.ownBlock = some w.heap.size) → v' ≠ .slice none 0 0 → wpList Try.prog ops Q rest (a.put o.dst v') w') : wpList Try.prog ops Q (o :: rest) a w := by
  obtain ⟨v', w', hr, h2, h3, h4, h5⟩ := run_append_ints_any (ty := o.type) hrow hne hsrc hn hB
  refine wpList_plain hgd fun _ hK => ?_
  unfold Oper.wp execOp
  simp only [ho, resolve, invoke, builtin, Sem.run_bind, Sem.run_pure, Result.andThen_ok, List.map_toArray, List.map_cons, List.map_nil, hs, hx, hr]
  exact hK _ _ (h v' w' h2 h3 h4 h5)

theorem infoSl : (Try.prog.info? 26).map (fun i => (i.zero, i.size, i.bytes)) = some (some (.slice none 0 0), 1, 24) := by kernel_rfl
/-- a list of lists of ints that grows and that the call owns -/
def GII (w : World) (B : Nat) (v : Value) (ps : List (List Int)) (F : List Nat) : Prop := Gr w B 26 1 v ps.length (ps.map (slOf intE)) F
theorem GII.own {w : World} {B : Nat} {v : Value} {ps : List (List Int)} {F : List Nat} (h : GII w B v ps F) : ∃ G, D.own w v (slOf issE ps) G ∧ ∀ x ∈ G, B ≤ x := by
  obtain ⟨G, h1, h2⟩ := Gr.own h (by decide)
  exact ⟨G, by rw [slOf, flat_iss]; exact h1, h2⟩
/-- append(list, p) of lists of ints: p lies in a row of its own -/
theorem wpList_append_iss {ops : Array Oper} {rest : List Oper} {o : Oper} {a : Act} {w : World} {Q : Exit → Act → World → Prop} {B : Nat} (hgd : o.guard = none) (s x : Operand) (ho : o.op = .call { callee := .builtin .append, args := #[s, x], argTypes := #[38, 38] })
    {v pv : Value} {ps : List (List Int)} {p : List Int} {F G : List Nat} {b : Nat} (hs : a.eval s = v) (hx : a.eval x = .slice (some ⟨b, 0, none⟩) 1 1) (hrow : GII w B v ps F) (hcell : w.cell? ⟨b, 0, none⟩ = some pv) (hp : D.own w pv (slOf intE p) G) (hG : ∀ x ∈ G, B ≤ x) (hd : ∀ x ∈ F, x ∉ G) (hv : ∀ x, v.ownBlock = some x → x ∉ G) (hn : ps.length ≤ 4294967296) (hB : B ≤ w.heap.size)
    (h : ∀ g cap w', GII w' B (.slice (some ⟨g, 0, none⟩) (ps.length + 1) cap) (ps ++ [p]) (F ++ (G ++ [])) → w.grownBy w' v.ownBlock → (v.ownBlock = some g ∨ g = w.heap.size) → g < w'.heap.size → wpList Try.prog ops Q rest (a.put o.dst (.slice (some ⟨g, 0, none⟩) (ps.length + 1) cap)) w') : wpList Try.prog ops Q (o :: rest) a w := by
  obtain ⟨xa, xc, rfl, _, _⟩ := slOf_form (D.own_rd _ _ _ hp)
  have hO : OwnsL w [.slice xa p.length xc] [slOf intE p] (G ++ []) := OwnsL.cons hp (OwnsL.nil w) (by simp)
  refine wpList_append_gr (news := [.slice xa p.length xc]) (G := G ++ []) Try.underlying38 infoSl rfl (by decide) (by decide) hgd s x ho hs hx hrow rfl (fun j u hj => ?_) (by simp [Value.oneCell']) hO (by simpa using hG) (by simpa using hd) (by simpa using hv) hn hB fun g cap w' h1 h2 h3 h4 => h g cap w' ?_ h2 h3 h4
  · cases j with
    | zero => simp at hj; subst hj; exact hcell
    | succ j => simp at hj
  · unfold GII
    rw [List.length_append, List.map_append]
    exact h1

def PosIs (t : Tm) : Prop := ∀ (S : Nat → Prop) (c0 c1 : Value) (w : World), Tm.at S w c0 c1 t → t.bulk ≤ 1048576 → Calls Try.prog 66 #[.agg #[c0, c1]] w fun e w' => ∃ v F, e = .returned v ∧ D.own w' v (slOf issE t.poss) F ∧ (∀ x ∈ F, w.heap.size ≤ x) ∧ Below w.heap.size w w'
set_option maxHeartbeats 4000000 in
theorem posIs_of (t : Tm) (ih : ∀ a ∈ t.args, PosIs a) : PosIs t := by
  intro S c0 c1 w ht hbk
  have HS := hid ht.2
  have HT := hid (Tm.poss_eq t)
  have hsb := Tm.size_bulk t
  have hts : t.size = 1 + Tm.sizes t.args := by cases t; rw [Tm.size]; rfl
  obtain ⟨_, _, e, hlen, -⟩ := Tm.sd_form HS.out
  unfold big at hlen
  clear e
  obtain ⟨rfl, tn, ta, tc, rfl⟩ := Tm.at_form ht
  have hW : Below w.heap.size w (w.alloc (.cells #[.string t.name, .slice ta t.args.length tc] 31)) := (Below.refl _ _).alloc (Nat.le_refl _) _
  have bt : Box (w.alloc (.cells #[.string t.name, .slice ta t.args.length tc] 31)) (w.heap.size) [.string t.name, .slice ta t.args.length tc] := by
    have := (Box.new w [.string t.name, .slice ta t.args.length tc] 31)
    simpa only [World.size_alloc] using this
  replace ht := Tm.at_keep (Keeps.all hW) ht
  have et0 := bt.c0
  have et1 := bt.c1
  have lt := bt.lt
  go_enter Try.func66, Try.ntmps66
  go_wp2_with fail
  clear et0 et1 lt
  have Hw0 : Hid ((w.alloc (.cells #[.string t.name, .slice ta t.args.length tc] 31)).heap.size = w.heap.size + 1) := by simp [Hid]
  generalize (w.alloc (.cells #[.string t.name, .slice ta t.args.length tc] 31)) = w0 at *
  go_loopw [3, 13] (fun x i wr => ∃ (k : Nat) (F : List Nat), k ≤ t.args.length ∧ i = .int .i64 k ∧ Hid (GII wr w.heap.size x ([] :: Tm.possL (t.args.take k) 0) F) ∧ Hid (x ≠ .slice none 0 0) ∧ Below w.heap.size w wr) (fun _ i _ => t.args.length - (intOf i).toNat)
  case atStart =>
    have hA : Below w0.heap.size w0 (w0.alloc (.cells #[] 3)) := (Below.refl _ _).alloc (Nat.le_refl _) _
    have hwz := hW.size
    refine ⟨0, [], Nat.zero_le _, rfl, ?_, hid (by intro e; cases e), ((hW.alloc hwz _).alloc (by simp; omega) _)⟩
    rw [List.take_zero, Tm.possL]
    exact Gr.lit (vs := [.slice (some ⟨w.heap.size + 1, 0, none⟩) 0 0]) (n := 1) _ (by simp [Hw0.out]) (by simp; omega) rfl (by decide) (OwnsL.cons (F := []) (D.own_nil _ _) (OwnsL.nil _) (by simp)) (by simp)
  case round =>
    obtain ⟨k, F, hk, rfl, HG, HN, hb⟩ := hrel
    by_cases hlt : k < t.args.length
    · have hne : t.args ≠ [] := by intro e; rw [e] at hlt; simp at hlt
      obtain ⟨b, off, rfl, hSb, hbl, hrr⟩ := Tm.sd_get (D.rd_keep (Keeps.all hb) _ _ HS.out) hne
      obtain ⟨c0, c1, q0, q1, q2⟩ := hrr k hlt
      obtain ⟨rfl, -, qa, qc, rfl⟩ := Tm.at_form q2
      have hA : Below wr.heap.size wr (wr.alloc (.cells #[.string t.args[k].name, .slice qa t.args[k].args.length qc] 31)) := (Below.refl _ _).alloc (Nat.le_refl _) _
      have hbm := Tm.bulk_mem (List.getElem_mem hlt)
      have hba := Tm.args_bulk t
      have hq := ih t.args[k] (List.getElem_mem hlt) _ _ _ _ (Tm.at_keep (Keeps.all hA) q2) (by omega)
      obtain ⟨qs, Hqs⟩ : ∃ qs, Hid (t.args[k].poss = qs) := ⟨_, hid rfl⟩
      obtain ⟨bas, Hbas⟩ : ∃ bas, Hid ([] :: Tm.possL (t.args.take k) 0 = bas) := ⟨_, hid rfl⟩
      have HNX : Hid ([] :: Tm.possL (t.args.take (k + 1)) 0 = bas ++ qs.map (fun p => (k : Int) :: p)) := by
        rw [Hid, Tm.possL_take _ _ _ hlt, ← Hbas.out, ← Hqs.out, Nat.zero_add]; rfl
      have hml : bas.length + qs.length ≤ 4194304 := by
        have h1 := Tm.poss_length t.args[k]
        have h2 := Tm.size_bulk t.args[k]
        have h3 : (Tm.possL (t.args.take k) 0).length ≤ Tm.sizes t.args := by
          have h4 := Tm.poss_length (.node t.name (t.args.take k))
          rw [Tm.poss, Tm.size, List.length_cons] at h4
          have := Tm.sizes_le t.args k
          omega
        rw [← Hbas.out, ← Hqs.out, List.length_cons]; omega
      have hdeep : Hid (∀ p ∈ qs, p.length ≤ 1048576) := fun p hp => by
        rw [← Hqs.out] at hp
        have := Tm.poss_deep _ p hp; omega
      have hki : IsI64 (k : Int) := ⟨by omega, by omega⟩
      rw [Hqs.out] at hq
      rw [Hbas.out] at HG
      have hob := HG.out
      clear hrr hbm hba
      go_wp2_with fail
      refine hq.mono ?_
      rintro e w2 ⟨v2, F2, rfl, ho2, hF2, hb2⟩
      obtain ⟨va, vc, rfl, hvn, -⟩ := slOf_form (D.own_rd _ _ _ ho2)
      unfold big at hvn
      have hb3 : Below wr.heap.size wr w2 := hA.trans (hb2.mono hA.size)
      have HG2 := hid (Gr.keep HG.out hb3)
      have hu2 := D.own_lt _ _ _ ho2
      have hbw2 := hb.trans (hb3.mono hb.size)
      have hF3 : ∀ y ∈ F2, wr.heap.size ≤ y := fun y hy => Nat.le_trans hA.size (hF2 y hy)
      have HD2 : Hid (∀ y, u3.ownBlock = some y → y ∉ F2) := fun y hy q => by have := (Gr.lt hob y hy).2; have := hF3 y q; omega
      have HO2 := hid ho2
      clear hq ho2 hob
      go_wp2_with fail
      go_loopw [3, 21] (fun x i wq => ∃ (j : Nat) (F : List Nat), j ≤ qs.length ∧ i = .int .i64 j ∧ Hid (GII wq w.heap.size x (bas ++ (qs.take j).map (fun p => (k : Int) :: p)) F) ∧ Hid (x ≠ .slice none 0 0) ∧ Hid (D.own wq (.slice va qs.length vc) (slOf issE qs) F2) ∧ Hid (∀ y, x.ownBlock = some y → y ∉ F2) ∧ Below w.heap.size w wq ∧ Hid (w2.heap.size ≤ wq.heap.size)) (fun _ i _ => qs.length - (intOf i).toNat)
      case atStart => exact ⟨0, F, Nat.zero_le _, rfl, by rw [List.take_zero, List.map_nil, List.append_nil]; exact HG2.out, HN, HO2.out, HD2, hbw2, hid (Nat.le_refl _)⟩
      case round =>
        obtain ⟨j, F4, hj, rfl, HGj, HNj, HOj, HDj, hbj, HZj⟩ := hrel
        by_cases hjl : j < qs.length
        · have hneq : qs ≠ [] := by intro e; subst e; simp at hjl
          obtain ⟨pb, poff, rfl, -, hpbl, hprr⟩ := iss_get (D.own_rd _ _ _ HOj.out) hneq
          obtain ⟨pv, p0, p1⟩ := hprr j hjl
          obtain ⟨pa, pc, rfl, -, -⟩ := slOf_form p1
          have hpl := hdeep.out qs[j] (List.getElem_mem hjl)
          obtain ⟨p, Hp⟩ : ∃ p, Hid (qs[j] = p) := ⟨_, hid rfl⟩
          rw [Hp.out] at p0 p1 hpl
          have HNX2 : Hid (bas ++ (qs.take (j + 1)).map (fun p => (k : Int) :: p) = (bas ++ (qs.take j).map (fun p => (k : Int) :: p)) ++ [(k : Int) :: p]) := by
            rw [Hid, List.take_succ_eq_append_getElem hjl, List.map_append, Hp.out, List.append_assoc]; rfl
          obtain ⟨cur, Hcur⟩ : ∃ cur, Hid (bas ++ (qs.take j).map (fun p => (k : Int) :: p) = cur) := ⟨_, hid rfl⟩
          have hcl : cur.length ≤ 4194304 := by rw [← Hcur.out, List.length_append, List.length_map, List.length_take]; omega
          rw [Hcur.out] at HGj HNX2
          have hgl := Gr.lt HGj.out
          have hgF := Gr.ltF HGj.out
          have hwz := hbj.size
          have hu3 := hu2
          have hzj := HZj.out
          have hA1 : Below wr.heap.size wr (wr.alloc (.cells #[.int .i64 k] 3)) := (Below.refl _ _).alloc (Nat.le_refl _) _
          clear hprr
          have hI1 : GI (wr.alloc (.cells #[.int .i64 k] 3)) wr.heap.size (.slice (some ⟨wr.heap.size, 0, none⟩) 1 1) [(k : Int)] := GI.one hki rfl (Nat.le_refl _)
          have hp2 := D.rd_keep (Keeps.all hA1) _ _ (D.rd_all p1)
          go_wp2_with (first
            | (refine wpList_append_iss (B := w.heap.size) (ps := cur) (p := (k : Int) :: p) (F := F4) (G := G3) rfl _ _ (by rfl) (by rfl) (by rfl) ((Gr.keep HGj.out hb4).keep ((Below.refl _ _).alloc (Nat.le_refl _) _)) (box1 _ _ _ 0) (D.own_keep _ _ _ (Keeps.all ((Below.refl _ _).alloc (Nat.le_refl _) _)) ho3) (fun y hy => by have := hG3 y hy; omega) (fun y hy hy' => by have := hG3 y hy'; have := hgF y hy; omega) (fun y hy hy' => by have := hG3 y hy'; have := (hgl y hy).2; omega) (by omega) (by rw [World.size_alloc]; omega) ?_
               intro g4 cap4 w4 hg4 hgr4 hgo4 hlt4)
            | (refine wpList_append_ints_any (B := wr.heap.size) (xs := [(k : Int)]) (ys := p) rfl _ _ (by rfl) (by rfl) (by rfl) hI1 (by intro e; cases e) hp2 (by simp; omega) (by simp) ?_
               intro v3 w3 hg3 hgr3 hgo3 hn3
               obtain ⟨g3, c3, rfl⟩ := hg3.addr hn3
               obtain ⟨G3, ho3, hG3⟩ := hg3.own
               have hb4 : Below wr.heap.size wr w3 := below_grown hA1 hgr3 (by simp) (fun x hx => by have hx' : wr.heap.size = x := Option.some.inj hx; omega)
               have hz4 := hb4.size))
          have HG5 : Hid (GII w4 w.heap.size (.slice (some ⟨g4, 0, none⟩) (cur.length + 1) cap4) (bas ++ (qs.take (j + 1)).map (fun p => (k : Int) :: p)) (F4 ++ (G3 ++ []))) := by rw [Hid, HNX2.out]; exact hg4
          have hb6 : Below wr.heap.size wr (w3.alloc (.cells #[.slice (some ⟨g3, 0, none⟩) ((k : Int) :: p).length c3] 26)) := hb4.alloc hz4 _
          have HO5 := hid (D.own_keep _ _ _ (keeps_grown hgr4 HDj.out) (D.own_keep _ _ _ (Keeps.all hb6) HOj.out))
          have HD5 : Hid (∀ y, (Value.slice (some ⟨g4, 0, none⟩) (cur.length + 1) cap4).ownBlock = some y → y ∉ F2) := fun y hy q => by
            have hy' : g4 = y := Option.some.inj hy
            subst hy'
            rcases hgo4 with r | r
            · exact HDj.out _ r q
            · rw [World.size_alloc] at r
              have := hu3 _ q
              omega
          have hb7 : Below w.heap.size w w4 := below_grown (hbj.trans (hb6.mono hbj.size)) hgr4 (by rw [World.size_alloc]; omega) (fun x hx => (hgl x hx).1)
          have HZ5 : Hid (w2.heap.size ≤ w4.heap.size) := by have := hgr4.size; rw [World.size_alloc] at this; show _ ≤ _; omega
          have HN5 : Hid (Value.slice (some ⟨g4, 0, none⟩) (cur.length + 1) cap4 ≠ .slice none 0 0) := by intro e; cases e
          clear hgr3 hgo3 hgr4 hgo4 hg4 hg3
          go_wp2_with fail
          go_roundw
          case rel => exact ⟨j + 1, _, by omega, by go_num, HG5, HN5, HO5, HD5, hb7, HZ5⟩
          case measure => simp [intOf]; omega
        · obtain rfl : j = qs.length := by omega
          go_wp2_with fail
          go_roundw
          case rel => exact ⟨k + 1, F4, by omega, by go_num, by rw [HNX.out]; have := HGj.out; rwa [List.take_length] at this, HNj, hbj⟩
          case measure => simp [intOf]; omega
    · obtain rfl : k = t.args.length := by omega
      have hg := HG.out
      rw [List.take_length, ← HT.out] at hg
      obtain ⟨G, ho, hG⟩ := GII.own hg
      go_wp2_with fail
      go_ret
      exact ⟨_, G, rfl, ho, hG, hb⟩
end Go.Proofs.Ytoekonkpephocaa
