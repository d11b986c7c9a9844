/- Several texts in one file. -/
import Derived.Test.YtooocakkjdhfiaaGreatDoorQ16
import Derived.Test.YtooocakkjdhfiaaGreatDoorQ14
import Derived.Test.YtooocakkjdhfiaaGreatDoorQ06
import Derived.Test.YtooocakkjdhfiaaGreatDoorQ05
import Derived.Test.YtooocakkjdhfiaaGreatDoorQ15
import Derived.Test.YtooocakkjdhfiaaGreatDoorQ04
import Derived.Test.YtooocakkjdhfiaaGreatDoorQ12
import Derived.Test.YtooocakkjdhfiaaGreatDoorQ10
import Derived.Test.YtooocakkjdhfiaaGreatDoorQ13
import Derived.Test.YtooocakkjdhfiaaGreatDoorQ08
import Derived.Test.YtooocakkjdhfiaaGreatDoorQ03
import Derived.Test.YtooocakkjdhfiaaGreatDoorQ07
/- The clause of literals: the program's. -/
namespace Go.Proofs.YtooocakkjdhfiaaGreatDoor
set_option maxRecDepth 100000
open Go.RowKit

theorem infoLitI : (Tryz.prog.info? 52).map (fun i => (i.zero, i.size, i.bytes)) = some (some (.agg #[.bool false, .string ByteArray.empty, .slice none 0 0]), 3, 48) := by kernel_rfl
theorem Lit.own_item {w : World} {x : Lit} {v : Value} {F : List Nat} (hn : x.atom.name.size ≤ maxLen) (h : D.own w v (Tm.sd x.atom.args) F) : OwnsL w [.bool x.pos, .string x.atom.name, v] x.cs F := by
  have hb : D.own w (.bool x.pos) (.bit x.pos) [] := by rw [D.own]; exact ⟨rfl, rfl⟩
  have := OwnsL.cons (F := []) hb (OwnsL.cons (F := []) (D.own_str hn) (OwnsL.cons h (OwnsL.nil w) (by simp)) (by simp)) (by simp)
  rw [Lit.cs_eq]
  simpa using this
theorem Lit.name_leA {S : Nat → Prop} {w : World} {c0 c1 c2 : Value} {x : Lit} (h : Lit.at S w c0 c1 c2 x) : x.atom.name.size ≤ maxLen := by have q := h.2.1; rw [D.rd] at q; exact q.2
theorem Lit.bulk_memA {xs : List Lit} {x : Lit} (h : x ∈ xs) : x.atom.bulk ≤ Lit.bulks xs := by
  induction xs with
  | nil => cases h
  | cons a xs ih =>
    rw [Lit.bulks]
    rcases List.mem_cons.1 h with rfl | h
    · rw [Lit.bulk]; omega
    · have := ih h; omega
/-- a copy of a literal -/
def CopiedL (x : Lit) (w : World) (e : Ending) (w' : World) : Prop := ∃ a c F, e = .returned (.agg #[.bool x.pos, .string x.atom.name, .slice a x.atom.args.length c]) ∧ D.own w' (.slice a x.atom.args.length c) (Tm.sd x.atom.args) F ∧ (∀ y ∈ F, w.heap.size ≤ y) ∧ Below w.heap.size w w'
set_option maxHeartbeats 1000000 in
theorem copyLiteral_any {t : Lit} {S : Nat → Prop} {c0 c1 c2 : Value} {w : World} (ht : Lit.at S w c0 c1 c2 t) (hbk : t.atom.bulk ≤ 1048576) : Calls Tryz.prog 67 #[.agg #[c0, c1, c2]] w (CopiedL t w) := by
  obtain ⟨rfl, rfl, ta, tc, rfl⟩ := Lit.at_form ht
  have hW : Below w.heap.size w ((w.alloc (.cells #[.bool t.pos, .string t.atom.name, .slice ta t.atom.args.length tc] 52)).alloc (.cells #[.bool false, .string ⟨#[]⟩, .slice none 0 0] 52)) := ((Below.refl _ _).alloc (Nat.le_refl _) _).alloc (by simp) _
  have bt : Box ((w.alloc (.cells #[.bool t.pos, .string t.atom.name, .slice ta t.atom.args.length tc] 52)).alloc (.cells #[.bool false, .string ⟨#[]⟩, .slice none 0 0] 52)) (w.heap.size) [.bool t.pos, .string t.atom.name, .slice ta t.atom.args.length tc] := by
    have := ((Box.new w [.bool t.pos, .string t.atom.name, .slice ta t.atom.args.length tc] 52).alloc (.cells #[.bool false, .string ⟨#[]⟩, .slice none 0 0] 52))
    simpa only [World.size_alloc] using this
  have rb : Box ((w.alloc (.cells #[.bool t.pos, .string t.atom.name, .slice ta t.atom.args.length tc] 52)).alloc (.cells #[.bool false, .string ⟨#[]⟩, .slice none 0 0] 52)) (w.heap.size + 1) [.bool false, .string ⟨#[]⟩, .slice none 0 0] := by
    have := (Box.new (w.alloc (.cells #[.bool t.pos, .string t.atom.name, .slice ta t.atom.args.length tc] 52)) [.bool false, .string ⟨#[]⟩, .slice none 0 0] 52)
    simpa only [World.size_alloc] using this
  have rf : ∀ p, ((w.alloc (.cells #[.bool t.pos, .string t.atom.name, .slice ta t.atom.args.length tc] 52)).alloc (.cells #[.bool false, .string ⟨#[]⟩, .slice none 0 0] 52)).frozen? ⟨w.heap.size + 1, p, none⟩ = false := fun p => World.frozen?_alloc_at _ _ _ p (by simp)
  replace ht := Lit.at_keep (Keeps.all hW) ht
  have et0 := bt.c0
  have et1 := bt.c1
  have et2 := bt.c2
  have lt := bt.lt
  have re0 := rb.c0
  have rf0 := rf 0
  have re1 := rb.c1
  have rf1 := rf 1
  have re2 := rb.c2
  have rf2 := rf 2
  have rl := rb.lt
  go_enter Tryz.func67, Tryz.ntmps67
  go_wp2_with fail
  clear et0 et1 et2 lt re0 rf0 re1 rf1 re2 rf2 rl
  have Hw0 : Hid (((w.alloc (.cells #[.bool t.pos, .string t.atom.name, .slice ta t.atom.args.length tc] 52)).alloc (.cells #[.bool false, .string ⟨#[]⟩, .slice none 0 0] 52)).heap.size = w.heap.size + 1 + 1) := by simp [Hid]
  generalize ((w.alloc (.cells #[.bool t.pos, .string t.atom.name, .slice ta t.atom.args.length tc] 52)).alloc (.cells #[.bool false, .string ⟨#[]⟩, .slice none 0 0] 52)) = w0 at *
  have hz0 := Hw0.out
  have et0 := bt.c0
  have et1 := bt.c1
  have et2 := bt.c2
  have lt := bt.lt
  have re0 := rb.c0
  have rf0 := rf 0
  have re1 := rb.c1
  have rf1 := rf 1
  have re2 := rb.c2
  have rf2 := rf 2
  have rl := rb.lt
  have HE := hid (Lit.at_atom ht)
  have nn0 : ¬ (none : Option Nat) = some w.heap.size := fun e => by cases e
  have nn1 : ¬ (none : Option Nat) = some (w.heap.size + 1) := fun e => by cases e
  have HWW := hid hW
  refine region_late (l := [_, _, _, _, _, _]) (tl := [_]) (S := fun w1 => (w0).grownBy w1 (none)) (n := 6) rfl rfl (by kernel_rfl) (by kernel_rfl) (grown_of_below ((Below.refl _ _).drew) _) (fun hQL hS => ?_)
  refine late_take (i := 0) (d := some 3) (v := .pointer (some ⟨w.heap.size, 0, none⟩)) rfl rfl (by kernel_rfl) (by kernel_rfl) (by kernel_rfl) hQL (by rfl) (fun w1 _ => (by go_simp)) hS ?_
  try simp only [Act.put, List.setIfInBounds_toArray, List.set_cons_zero, List.set_cons_succ]
  refine late_take (i := 1) (d := some 4) (v := .bool t.pos) rfl rfl (by kernel_rfl) (by kernel_rfl) (by kernel_rfl) hQL (by rfl) (fun w1 hS1 => (by obtain ⟨hc, hf⟩ := bcellG hS1; go_simp)) hS ?_
  try simp only [Act.put, List.setIfInBounds_toArray, List.set_cons_zero, List.set_cons_succ]
  refine late_take (i := 2) (d := some 5) (v := .pointer (some ⟨w.heap.size, 1, none⟩)) rfl rfl (by kernel_rfl) (by kernel_rfl) (by kernel_rfl) hQL (by rfl) (fun w1 _ => (by go_simp)) hS ?_
  try simp only [Act.put, List.setIfInBounds_toArray, List.set_cons_zero, List.set_cons_succ]
  refine late_take (i := 3) (d := some 6) (v := .agg #[.string t.atom.name, .slice ta t.atom.args.length tc]) rfl rfl (by kernel_rfl) (by kernel_rfl) (by kernel_rfl) hQL (by rfl) (fun w1 hS1 => (by obtain ⟨hc, hf⟩ := bcellG hS1; go_simp)) hS ?_
  try simp only [Act.put, List.setIfInBounds_toArray, List.set_cons_zero, List.set_cons_succ]
  refine wpAnyH_ready (rs := [4]) (by kernel_rfl) (by simp) ?_
  refine AllReadyH.cons rfl (fun K hK => ?_) AllReadyH.nil
  refine step_does rfl ?_
  unfold Does
  go_simp
  go_at_call 92
  refine (copyTerm_any t.atom _ _ _ _ (Tm.at_keep (Keeps.all ((Below.refl _ _).drew)) HE.out) hbk).mono ?_
  rintro e w1 ⟨v1, G, rfl, ho, hG, hb1⟩
  obtain ⟨a1, cap1, rfl⟩ := Tm.sd_own_form ho
  have HO := hid ho
  have HGG : Hid (∀ y ∈ G, w0.heap.size ≤ y) := hG
  clear ho hG
  refine ⟨_, rfl, ?_⟩
  refine hK.out _ _ (World.grownBy.trans hS (grown_of_below hb1 _)) (fun hS => ?_)
  try show wpAnyH _ _ _ _ _ _ _ (Act.put _ (some 7) _) _
  try simp only [Act.put, List.setIfInBounds_toArray, List.set_cons_zero, List.set_cons_succ]
  refine late_take (i := 5) (d := some 8) (v := .agg #[.bool t.pos, .string t.atom.name, .slice a1 t.atom.args.length cap1]) rfl rfl (by kernel_rfl) (by kernel_rfl) (by kernel_rfl) hQL (by rfl) (fun w1 _ => (by go_simp)) hS ?_
  try simp only [Act.put, List.setIfInBounds_toArray, List.set_cons_zero, List.set_cons_succ]
  refine wpAnyH_done (by kernel_rfl) ?_ _
  show wpTail _ _ _ _ _
  refine wpTail_step rfl (fun K hK => ?_)
  obtain ⟨hc, hf⟩ := bcellG hS
  go_simp
  refine hK.out _ _ ?_
  try clear hc hf
  refine wpTail_nil ?_
  have z0 := ((bcellG hS).1 (w.heap.size + 1) 0 (by omega) nn1).trans re0
  have z1 := ((bcellG hS).1 (w.heap.size + 1) 1 (by omega) nn1).trans re1
  have z2 := ((bcellG hS).1 (w.heap.size + 1) 2 (by omega) nn1).trans re2
  have HBB := hid (HWW.out.trans (((Below.refl _ _).drew.trans hb1).mono HWW.out.size))
  clear hS hb1
  go_wp2_with fail
  refine bodyPost_ret (v := .agg #[.bool t.pos, .string t.atom.name, .slice a1 t.atom.args.length cap1]) (by simp [results, Tryz.results67, go_sem, z0, z1, z2]) rfl ?_
  refine ⟨a1, cap1, G, rfl, ?_, fun y hy => by have := HGG.out y hy; omega, ?_⟩
  · have hn : w.heap.size + 1 ∉ G := fun q => by have := HGG.out _ q; omega
    exact D.own_keep _ _ _ ((((Keeps.refl (· ∈ G) w1).setCell (fun q _ => hn q) _).setCell (fun q _ => hn q) _).setCell (fun q _ => hn q) _) HO.out
  · exact ((HBB.out.setCell (by simp) _).setCell (by simp) _).setCell (by simp) _

set_option maxHeartbeats 2000000 in
theorem clauseOf_any {ts : List Lit} {S : Nat → Prop} {v : Value} {w : World} (hr : D.rd S w v (Lit.sd ts)) (hbk : ts.length + Lit.bulks ts ≤ 1048576) (hni : ∀ x ∈ ts, x.atom.nice = true) :
    Calls Tryz.prog 59 #[v] w (MadeCl ⟨makeL ts⟩ w) := by
  obtain ⟨a, cap, rfl, hlen, hcap⟩ := Lit.sd_form hr
  unfold big at hlen
  have HNI := hid hni
  clear hni
  have hW : Below w.heap.size w ((w.alloc (.cells #[.slice none 0 0] 28)).alloc (.cells #[.slice none 0 0] 28)) := ((Below.refl _ _).alloc (Nat.le_refl _) _).alloc (by simp) _
  have rb : Box ((w.alloc (.cells #[.slice none 0 0] 28)).alloc (.cells #[.slice none 0 0] 28)) w.heap.size [.slice none 0 0] := (Box.new w [Value.slice none 0 0] 28).alloc _
  have ob : Box ((w.alloc (.cells #[.slice none 0 0] 28)).alloc (.cells #[.slice none 0 0] 28)) (w.heap.size + 1) [.slice none 0 0] := by
    have := Box.new (w.alloc (.cells #[.slice none 0 0] 28)) [Value.slice none 0 0] 28
    simpa only [World.size_alloc] using this
  have rf : ((w.alloc (.cells #[.slice none 0 0] 28)).alloc (.cells #[.slice none 0 0] 28)).frozen? ⟨w.heap.size, 0, none⟩ = false := (World.frozen?_alloc_past _ _ 0 (by simp)).trans (World.frozen?_alloc_at _ _ _ 0 (by simp))
  have of : ((w.alloc (.cells #[.slice none 0 0] 28)).alloc (.cells #[.slice none 0 0] 28)).frozen? ⟨w.heap.size + 1, 0, none⟩ = false := World.frozen?_alloc_at _ _ _ 0 (by simp)
  have HZ : Hid (((w.alloc (.cells #[.slice none 0 0] 28)).alloc (.cells #[.slice none 0 0] 28)).heap.size = w.heap.size + 1 + 1) := by simp [Hid]
  go_enter Tryz.func59, Tryz.ntmps59
  go_wp2_with fail
  generalize ((w.alloc (.cells #[.slice none 0 0] 28)).alloc (.cells #[.slice none 0 0] 28)) = w0 at *
  have hz0 := HZ.out
  have HRD := hid hr
  clear hr
  go_loopw [9] (fun i wr => ∃ (k : Nat) (F : List Nat) (v : Value), k ≤ ts.length ∧ i = .int .i64 k ∧ Hid (Gr wr (w.heap.size + 1 + 1) 52 3 v k (Lit.css (ts.take k)) F) ∧ wr.cell? ⟨w.heap.size + 1, 0, none⟩ = some v ∧ wr.frozen? ⟨w.heap.size + 1, 0, none⟩ = false ∧ w.heap.size + 1 + 1 ≤ wr.heap.size ∧ Hid (Below (w.heap.size + 1) w0 wr)) (fun i _ => ts.length - (intOf i).toNat)
  case atStart => exact ⟨0, [], .slice none 0 0, Nat.zero_le _, rfl, by rw [List.take_zero]; exact hid (Gr.nil _ _ _ _), ob.c0, of, by omega, Below.refl _ _⟩
  case round =>
    obtain ⟨k, F, v, hk, rfl, HG, y0, y2, hz, HB⟩ := hrel
    have HBW := hid (hW.trans (HB.out.mono (by omega)))
    by_cases hlt : k < ts.length
    · have hne : ts ≠ [] := by intro e; subst e; simp at hlt
      obtain ⟨b, off, rfl, hS, hbl, hrr⟩ := Lit.sd_get HRD.out hne
      obtain ⟨c0, c1, c2, q0, q1, q2, qx⟩ := hrr k hlt
      have hnl := Lit.name_leA qx
      have hbm : ts[k].atom.bulk ≤ 1048576 := by have := Lit.bulk_memA (List.getElem_mem hlt); omega
      have hE := hid (Lit.at_keep (Keeps.all HBW.out) qx)
      obtain ⟨rfl, rfl, x, xc, rfl⟩ := Lit.at_form qx
      replace q0 := (HBW.out.cell (p := ⟨b, off + k * 3, none⟩) hbl).trans q0
      replace q1 := (HBW.out.cell (p := ⟨b, off + k * 3 + 1, none⟩) hbl).trans q1
      replace q2 := (HBW.out.cell (p := ⟨b, off + k * 3 + 2, none⟩) hbl).trans q2
      obtain ⟨r, Hr⟩ : ∃ r, Hid (v.ownBlock = r) := ⟨_, hid rfl⟩
      have HL : Hid (∀ y, r = some y → w.heap.size + 1 + 1 ≤ y ∧ y < wr.heap.size) := fun y hy => HG.out.lt y (Hr.out.trans hy)
      have n2 : ¬ r = some (w.heap.size + 1) := fun e => by have := HL.out _ e; omega
      have nb : ¬ r = some b := fun e => by have := HL.out _ e; omega
      have nw : ¬ r = some wr.heap.size := fun e => by have := HL.out _ e; omega
      clear hrr qx
      go_wp2_with fail
      have HA0 : Hid (Below wr.heap.size wr (wr.alloc (.cells #[.bool ts[k].pos, .string ts[k].atom.name, .slice x ts[k].atom.args.length xc] 52))) := (Below.refl _ _).alloc (Nat.le_refl _) _
      have bE : Box (wr.alloc (.cells #[.bool ts[k].pos, .string ts[k].atom.name, .slice x ts[k].atom.args.length xc] 52)) wr.heap.size [.bool ts[k].pos, .string ts[k].atom.name, .slice x ts[k].atom.args.length xc] := Box.new _ _ _
      replace hE := hid (Lit.at_keep (Keeps.all HA0.out) hE.out)
      replace HG := hid (HG.out.keep HA0.out)
      replace y0 := (HA0.out.cell (p := ⟨w.heap.size + 1, 0, none⟩) (by show w.heap.size + 1 < _; omega)).trans y0
      replace y2 := (HA0.out.frozen (p := ⟨w.heap.size + 1, 0, none⟩) (by show w.heap.size + 1 < _; omega)).trans y2
      replace HB := hid (HB.out.trans (HA0.out.mono (by omega)))
      have hzb : wr.heap.size + 1 = (wr.alloc (.cells #[.bool ts[k].pos, .string ts[k].atom.name, .slice x ts[k].atom.args.length xc] 52)).heap.size := by simp
      replace HBW := hid (HBW.out.trans (HA0.out.mono HBW.out.size))
      clear q0 q1 q2 HA0
      generalize wr.alloc (.cells #[.bool ts[k].pos, .string ts[k].atom.name, .slice x ts[k].atom.args.length xc] 52) = wb at *
      have e0 := bE.c0
      have e1 := bE.c1
      have e2 : wb.cell? ⟨wr.heap.size, 1 + 1, none⟩ = _ := bE.c2
      have lE := bE.lt
      have l2 : w.heap.size + 1 < wb.heap.size := by omega
      have hBb : w.heap.size + 1 + 1 ≤ wb.heap.size := by omega
      refine region_late (l := [_, _, _, _, _, _, _]) (tl := [_]) (S := fun w1 => (wb).grownBy w1 (r)) (n := 7) rfl rfl (by kernel_rfl) (by kernel_rfl) (grown_of_below ((Below.refl _ _).drew) _) (fun hQL hS => ?_)
      refine late_take (i := 0) (d := some 13) (v := .pointer (some ⟨(w.heap.size + 1), 0, none⟩)) rfl rfl (by kernel_rfl) (by kernel_rfl) (by kernel_rfl) hQL (by rfl) (fun w1 _ => (by go_simp)) hS ?_
      try simp only [Act.put, List.setIfInBounds_toArray, List.set_cons_zero, List.set_cons_succ]
      refine late_take (i := 1) (d := some 14) (v := v) rfl rfl (by kernel_rfl) (by kernel_rfl) (by kernel_rfl) hQL (by rfl) (fun w1 hS1 => (by obtain ⟨hc, hf⟩ := bcellG hS1; go_simp)) hS ?_
      try simp only [Act.put, List.setIfInBounds_toArray, List.set_cons_zero, List.set_cons_succ]
      refine late_take (i := 2) (d := some 15) (v := .agg #[.bool ts[k].pos, .string ts[k].atom.name, .slice x ts[k].atom.args.length xc]) rfl rfl (by kernel_rfl) (by kernel_rfl) (by kernel_rfl) hQL (by rfl) (fun w1 hS1 => (by obtain ⟨hc, hf⟩ := bcellG hS1; go_simp)) hS ?_
      try simp only [Act.put, List.setIfInBounds_toArray, List.set_cons_zero, List.set_cons_succ]
      refine wpAnyH_ready (rs := [3]) (by kernel_rfl) (by simp) ?_
      refine AllReadyH.cons rfl (fun K hK => ?_) AllReadyH.nil
      refine step_does rfl ?_
      unfold Does
      go_simp
      go_at_call 67
      refine (copyLiteral_any (t := ts[k]) (Lit.at_keep (Keeps.all ((Below.refl _ _).drew)) hE.out) hbm).mono ?_
      rintro e w1 ⟨a1, cap1, G, rfl, ho, hG, hb1⟩
      have HO := hid ho
      have HGG : Hid (∀ y ∈ G, wb.heap.size ≤ y) := hG
      have HG1 := hid (HG.out.keep (Below.trans ((Below.refl _ _).drew) (hb1.mono (Nat.le_refl _))))
      have hz2 : wb.heap.size ≤ w1.heap.size := hb1.size
      clear ho hG
      refine ⟨_, rfl, ?_⟩
      refine hK.out _ _ (World.grownBy.trans hS (grown_of_below hb1 _)) (fun hS => ?_)
      try show wpAnyH _ _ _ _ _ _ _ (Act.put _ (some 16) _) _
      try simp only [Act.put, List.setIfInBounds_toArray, List.set_cons_zero, List.set_cons_succ]
      refine wpAnyH_ready (rs := [4]) (by kernel_rfl) (by simp) ?_
      refine AllReadyH.cons rfl (fun K hK => ?_) AllReadyH.nil
      go_simp
      refine hK.out _ _ (World.grownBy.trans hS (World.grownBy_alloc _ _ _)) (fun hS => ?_)
      try show wpAnyH _ _ _ _ _ _ _ (Act.put _ (some 17) _) _
      try simp only [Act.put, List.setIfInBounds_toArray, List.set_cons_zero, List.set_cons_succ]
      refine wpAnyH_ready (rs := [5]) (by kernel_rfl) (by simp) ?_
      refine AllReadyH.cons rfl (fun K hK => ?_) AllReadyH.nil
      refine step_append_gr (news := [.bool ts[k].pos, .string ts[k].atom.name, .slice a1 ts[k].atom.args.length cap1]) (G := G) Tryz.underlying26 infoLitI rfl (by decide) (by decide) rfl _ _ (by rfl) (by rfl) (by rfl) (HG1.out.keep ((Below.refl _ _).alloc (Nat.le_refl _) _)) rfl (by intro j u hj; rw [box1]; simpa using hj) (by simp [Value.oneCell']) ((Lit.own_item hnl HO.out).keep (Keeps.all ((Below.refl _ _).alloc (Nat.le_refl _) _))) (fun y hy => by have := HGG.out y hy; omega) (fun y hy hy' => by have := HGG.out y hy'; have := HG.out.ltF y hy; omega) (fun y hy hy' => by have := HGG.out y hy'; have := HG.out.lt y hy; omega) (by omega) (by simp; omega) ?_
      intro g capg wg hg hgr hgo hglt
      rw [Hr.out] at hgr
      refine hK.out _ _ (World.grownBy.trans hS hgr) (fun hS => ?_)
      try show wpAnyH _ _ _ _ _ _ _ (Act.put _ (some 18) _) _
      try simp only [Act.put, List.setIfInBounds_toArray, List.set_cons_zero, List.set_cons_succ]
      refine late_take (i := 6) (d := some 19) (v := .pointer (some ⟨(w.heap.size + 1), 0, none⟩)) rfl rfl (by kernel_rfl) (by kernel_rfl) (by kernel_rfl) hQL (by rfl) (fun w1 _ => (by go_simp)) hS ?_
      try simp only [Act.put, List.setIfInBounds_toArray, List.set_cons_zero, List.set_cons_succ]
      refine wpAnyH_done (by kernel_rfl) ?_ _
      show wpTail _ _ _ _ _
      refine wpTail_step rfl (fun K hK => ?_)
      obtain ⟨hc, hf⟩ := bcellG hS
      go_simp
      refine hK.out _ _ ?_
      try clear hc hf
      refine wpTail_nil ?_
      have hgz := hS.size
      have HBg : Hid (Below (w.heap.size + 1) wb wg) := (Below.refl _ _).grown hS (by omega) (fun y hy => by have := HL.out y hy; omega)
      have z0g := (bcellG hS).1 (w.heap.size + 1) 0 l2 n2
      have z2g := (bcellG hS).2 (w.heap.size + 1) 0 l2 n2
      have HG2 := hid hg
      clear hg hgr hgo hglt hS
      go_wp2_with fail
      go_roundw
      case rel =>
        refine ⟨k + 1, F ++ G, .slice (some ⟨g, 0, none⟩) (k + 1) capg, by omega, by go_num, hid ?_, ?_, ?_, ?_, hid ?_⟩
        · rw [Lit.css_take_succ ts k hlt, ← Lit.cs_eq]
          exact HG2.out.setCell (by show w.heap.size + 1 < _; omega) _
        · exact World.cell?_setCell_same _ _ _ (z0g.trans y0)
        · rw [World.frozen?_setCell]; exact z2g.trans y2
        · rw [World.size_setCell]; omega
        · exact (HB.out.trans HBg.out).setCell (Nat.le_refl _) _
      case measure => simp [intOf]; omega
    · obtain rfl : k = ts.length := by omega
      have HG' := HG.out
      rw [List.take_length] at HG'
      obtain ⟨Gf, hO, hGf⟩ := HG'.own (by decide)
      rw [← Lit.sd_css] at hO
      have HGF := hid hGf
      have l1 : w.heap.size + 1 < wr.heap.size := by omega
      have l0 : w.heap.size < wr.heap.size := by omega
      have r0 : wr.cell? ⟨w.heap.size, 0, none⟩ = some (.slice none 0 0) := (HB.out.cell (p := ⟨w.heap.size, 0, none⟩) (by show w.heap.size < w.heap.size + 1; omega)).trans rb.c0
      have r1 : wr.frozen? ⟨w.heap.size, 0, none⟩ = false := (HB.out.frozen (p := ⟨w.heap.size, 0, none⟩) (by show w.heap.size < w.heap.size + 1; omega)).trans rf
      have hq := hid (sortLit_any hO (by omega) HNI.out)
      have nG0 : w.heap.size ∉ Gf := fun q => by have := HGF.out _ q; omega
      have nG1 : w.heap.size + 1 ∉ Gf := fun q => by have := HGF.out _ q; omega
      clear hO hGf HG' HB HG
      go_wp2_with fail
      refine hq.out.mono ?_
      rintro e w1 ⟨rfl, ys, F1, hp, hpw, ho1, hs1, hm1⟩
      have HMK : Hid (compactL ys = makeL ts) := compact_make hp hpw
      replace y0 := (World.cell?_of_block (a := ⟨w.heap.size + 1, 0, none⟩) (hm1.1.block _ nG1 l1)).trans y0
      replace y2 := (World.frozen?_of_block (a := ⟨w.heap.size + 1, 0, none⟩) (hm1.1.block _ nG1 l1)).trans y2
      replace r0 := (World.cell?_of_block (a := ⟨w.heap.size, 0, none⟩) (hm1.1.block _ nG0 l0)).trans r0
      replace r1 := (World.frozen?_of_block (a := ⟨w.heap.size, 0, none⟩) (hm1.1.block _ nG0 l0)).trans r1
      replace HBW := hid (HBW.out.trans (hm1.2 _ HBW.out.size (fun y hy => by have := HGF.out y hy; omega)))
      have HG1 : Hid (∀ y ∈ F1, w.heap.size + 1 + 1 ≤ y) := fun y hy => HGF.out y (hs1 y hy)
      replace l1 := Nat.lt_of_lt_of_le l1 hm1.size
      replace l0 := Nat.lt_of_lt_of_le l0 hm1.size
      have hq2 := compactLit_any ho1
      have nF0 : w.heap.size ∉ F1 := fun q => by have := HG1.out _ q; omega
      have nF1 : w.heap.size + 1 ∉ F1 := fun q => by have := HG1.out _ q; omega
      clear hq hp hpw ho1 hs1 hm1
      go_wp2_with fail
      refine hq2.mono ?_
      rintro e w2 ⟨v2, F2, rfl, ho2, hs2, hm2⟩
      rw [HMK.out] at ho2
      replace y0 := (World.cell?_of_block (a := ⟨w.heap.size + 1, 0, none⟩) (hm2.1.block _ nF1 l1)).trans y0
      replace y2 := (World.frozen?_of_block (a := ⟨w.heap.size + 1, 0, none⟩) (hm2.1.block _ nF1 l1)).trans y2
      replace r0 := (World.cell?_of_block (a := ⟨w.heap.size, 0, none⟩) (hm2.1.block _ nF0 l0)).trans r0
      replace r1 := (World.frozen?_of_block (a := ⟨w.heap.size, 0, none⟩) (hm2.1.block _ nF0 l0)).trans r1
      replace HBW := hid (HBW.out.trans (hm2.2 _ HBW.out.size (fun y hy => by have := HG1.out y hy; omega)))
      have HG2 : Hid (∀ y ∈ F2, w.heap.size + 1 + 1 ≤ y) := fun y hy => HG1.out y (hs2 y hy)
      obtain ⟨a2, cap2, rfl⟩ := Lit.sd_own_form ho2
      have HO2 := hid ho2
      have mF0 : w.heap.size ∉ F2 := fun q => by have := HG2.out _ q; omega
      have mF1 : w.heap.size + 1 ∉ F2 := fun q => by have := HG2.out _ q; omega
      clear hq2 ho2 hs2 hm2
      go_wp2_with fail
      refine bodyPost_ret (v := .agg #[.slice a2 (makeL ts).length cap2]) (by simp [results, Tryz.results59, go_sem, r0]) rfl ?_
      refine ⟨_, F2, rfl, ?_, fun y hy => by have := HG2.out y hy; omega, ?_⟩
      · exact D.own_keep _ _ _ (((Keeps.refl (· ∈ F2) w2).setCell (fun q _ => mF1 q) _).setCell (fun q _ => mF0 q) _) HO2.out
      · exact (HBW.out.setCell (by simp) _).setCell (by simp) _
/-- a clause, if it is valid -/
def ifCl (c : Cl) : Cl := if c.valid = true then c else ⟨[]⟩
set_option maxHeartbeats 1000000 in
theorem ifClause_any {t : Cl} {F : List Nat} {c0 : Value} {w : World} (ho : D.own w c0 (Lit.sd t.ls) F) (hbk : t.bulk ≤ 1048576) : Calls Tryz.prog 26 #[.agg #[c0]] w fun e w' => ∃ v F', e = .returned (.tuple #[.agg #[v], .bool t.valid]) ∧ D.own w' v (Lit.sd (ifCl t).ls) F' ∧ (∀ y ∈ F', y ∈ F) ∧ Below w.heap.size w w' := by
  have HO := hid ho
  have HLT := hid (D.own_lt _ _ _ ho)
  have ht : Cl.at (· ∈ F) w c0 t := D.own_rd _ _ _ ho
  clear ho
  by_cases hv : t.valid = true
  · have HV := hid hv
    have HI : Hid (ifCl t = t) := by rw [Hid, ifCl, if_pos hv]
    clear hv
    obtain ⟨ta, tc, rfl⟩ := Cl.at_form ht
    have hW : Below w.heap.size w ((w.alloc (.cells #[.slice ta t.ls.length tc] 28)).alloc (.cells #[.slice none 0 0] 28)) := ((Below.refl _ _).alloc (Nat.le_refl _) _).alloc (by simp) _
    have bt : Box ((w.alloc (.cells #[.slice ta t.ls.length tc] 28)).alloc (.cells #[.slice none 0 0] 28)) (w.heap.size) [.slice ta t.ls.length tc] := by
      have := ((Box.new w [.slice ta t.ls.length tc] 28).alloc (.cells #[.slice none 0 0] 28))
      simpa only [World.size_alloc] using this
    have rb : Box ((w.alloc (.cells #[.slice ta t.ls.length tc] 28)).alloc (.cells #[.slice none 0 0] 28)) (w.heap.size + 1) [.slice none 0 0] := by
      have := (Box.new (w.alloc (.cells #[.slice ta t.ls.length tc] 28)) [.slice none 0 0] 28)
      simpa only [World.size_alloc] using this
    have rf : ∀ p, ((w.alloc (.cells #[.slice ta t.ls.length tc] 28)).alloc (.cells #[.slice none 0 0] 28)).frozen? ⟨w.heap.size + 1, p, none⟩ = false := fun p => World.frozen?_alloc_at _ _ _ p (by simp)
    replace ht := Cl.at_keep (Keeps.all hW) ht
    have et0 := bt.c0
    have lt := bt.lt
    have re0 := rb.c0
    have rf0 := rf 0
    have rl := rb.lt
    go_enter Tryz.func26, Tryz.ntmps26
    go_wp2_with fail
    clear et0 lt re0 rf0 rl
    have Hw0 : Hid (((w.alloc (.cells #[.slice ta t.ls.length tc] 28)).alloc (.cells #[.slice none 0 0] 28)).heap.size = w.heap.size + 1 + 1) := by simp [Hid]
    generalize ((w.alloc (.cells #[.slice ta t.ls.length tc] 28)).alloc (.cells #[.slice none 0 0] 28)) = w0 at *
    have HO1 := hid (D.own_keep _ _ _ (Keeps.all hW) HO.out)
    refine (impl_IsValidClause ht hbk).mono ?_
    rintro e w1 ⟨_, rfl, hb, rfl⟩
    replace hW := hW.trans (hb.mono hW.size)
    replace bt := bt.keep hb
    replace ht := Cl.at_keep (Keeps.all hb) ht
    replace rf := fun p => (hb.frozen (p := ⟨_, p, none⟩) rb.lt).trans (rf p)
    replace rb := rb.keep hb
    have HO2 := hid (D.own_keep _ _ _ (Keeps.all hb) HO1.out)
    clear hb
    rw [HV.out]
    have et0 := bt.c0
    have lt := bt.lt
    have re0 := rb.c0
    have rf0 := rf 0
    have rl := rb.lt
    go_wp2_with fail
    refine bodyPost_ret (v := .tuple #[.agg #[.slice ta t.ls.length tc], .bool true]) (by simp [results, Tryz.results26, go_sem, rb.c0]; try rfl) rfl ?_
    refine ⟨_, F, by rw [HV.out], ?_, fun y h => h, hW.setCell (by simp) _⟩
    rw [HI.out]
    exact D.own_keep _ _ _ ((Keeps.refl (· ∈ F) _).setCell (fun (q : w.heap.size + 1 ∈ F) _ => by have := HLT.out _ q; omega) _) HO2.out
  · have HV := hid (Bool.eq_false_iff.2 hv)
    have HI : Hid (ifCl t = ⟨[]⟩) := by rw [Hid, ifCl, if_neg hv]
    clear hv
    obtain ⟨ta, tc, rfl⟩ := Cl.at_form ht
    have hW : Below w.heap.size w ((w.alloc (.cells #[.slice ta t.ls.length tc] 28)).alloc (.cells #[.slice none 0 0] 28)) := ((Below.refl _ _).alloc (Nat.le_refl _) _).alloc (by simp) _
    have bt : Box ((w.alloc (.cells #[.slice ta t.ls.length tc] 28)).alloc (.cells #[.slice none 0 0] 28)) (w.heap.size) [.slice ta t.ls.length tc] := by
      have := ((Box.new w [.slice ta t.ls.length tc] 28).alloc (.cells #[.slice none 0 0] 28))
      simpa only [World.size_alloc] using this
    have rb : Box ((w.alloc (.cells #[.slice ta t.ls.length tc] 28)).alloc (.cells #[.slice none 0 0] 28)) (w.heap.size + 1) [.slice none 0 0] := by
      have := (Box.new (w.alloc (.cells #[.slice ta t.ls.length tc] 28)) [.slice none 0 0] 28)
      simpa only [World.size_alloc] using this
    have rf : ∀ p, ((w.alloc (.cells #[.slice ta t.ls.length tc] 28)).alloc (.cells #[.slice none 0 0] 28)).frozen? ⟨w.heap.size + 1, p, none⟩ = false := fun p => World.frozen?_alloc_at _ _ _ p (by simp)
    replace ht := Cl.at_keep (Keeps.all hW) ht
    have et0 := bt.c0
    have lt := bt.lt
    have re0 := rb.c0
    have rf0 := rf 0
    have rl := rb.lt
    go_enter Tryz.func26, Tryz.ntmps26
    go_wp2_with fail
    clear et0 lt re0 rf0 rl
    have Hw0 : Hid (((w.alloc (.cells #[.slice ta t.ls.length tc] 28)).alloc (.cells #[.slice none 0 0] 28)).heap.size = w.heap.size + 1 + 1) := by simp [Hid]
    generalize ((w.alloc (.cells #[.slice ta t.ls.length tc] 28)).alloc (.cells #[.slice none 0 0] 28)) = w0 at *
    refine (impl_IsValidClause ht hbk).mono ?_
    rintro e w1 ⟨_, rfl, hb, rfl⟩
    replace hW := hW.trans (hb.mono hW.size)
    replace bt := bt.keep hb
    replace ht := Cl.at_keep (Keeps.all hb) ht
    replace rf := fun p => (hb.frozen (p := ⟨_, p, none⟩) rb.lt).trans (rf p)
    replace rb := rb.keep hb
    clear hb
    rw [HV.out]
    have et0 := bt.c0
    have lt := bt.lt
    have re0 := rb.c0
    have rf0 := rf 0
    have rl := rb.lt
    go_wp2_with fail
    refine bodyPost_ret (v := .tuple #[.agg #[.slice none 0 0], .bool false]) (by simp [results, Tryz.results26, go_sem, rb.c0]; try rfl) rfl ?_
    refine ⟨_, [], by rw [HV.out], ?_, by simp, hW.setCell (by simp) _⟩
    rw [HI.out, Lit.sd_css]
    exact D.own_nil _ _
end Go.Proofs.YtooocakkjdhfiaaGreatDoor
/- MakeClause: the program's. -/
namespace Go.Proofs.YtooocakkjdhfiaaGreatDoor
set_option maxRecDepth 100000
open Go.RowKit

def allAtom (xs : List Lit) : Bool := xs.all fun x => x.atom.atom
/-- what MakeClause returns -/
def mkOk (xs : List Lit) : Bool := allAtom xs && (⟨makeL xs⟩ : Cl).valid
def mkR (xs : List Lit) : Cl := if mkOk xs = true then ⟨makeL xs⟩ else ⟨[]⟩
theorem insL_bulk (s : List Lit) (x : Lit) : (insL s x).length ≤ s.length + 1 ∧ Lit.bulks (insL s x) ≤ Lit.bulks s + x.bulk := by
  have happ : ∀ a b : List Lit, Lit.bulks (a ++ b) = Lit.bulks a + Lit.bulks b := by
    intro a
    induction a with
    | nil => intro b; simp [Lit.bulks]
    | cons y a ih => intro b; rw [List.cons_append, Lit.bulks, Lit.bulks, ih]; omega
  have hs := List.takeWhile_append_dropWhile (p := fun y => decide (Lit.cmp y x < 0)) (l := s)
  have h1 := happ (s.takeWhile fun y => decide (Lit.cmp y x < 0)) (s.dropWhile fun y => decide (Lit.cmp y x < 0))
  have h2 := congrArg List.length hs
  rw [hs] at h1
  rw [List.length_append] at h2
  rw [insL]
  split
  · rename_i e
    rw [e] at h1 h2
    rw [happ, List.length_append]
    simp only [Lit.bulks, List.length_cons, List.length_nil] at *
    omega
  · rename_i y r e
    split
    · omega
    · rw [e] at h1 h2
      rw [happ, List.length_append]
      simp only [Lit.bulks, List.length_cons] at *
      omega
theorem makeL_bulk (xs : List Lit) : (makeL xs).length ≤ xs.length ∧ Lit.bulks (makeL xs) ≤ Lit.bulks xs := by
  have key : ∀ (xs s : List Lit), (xs.foldl insL s).length ≤ s.length + xs.length ∧ Lit.bulks (xs.foldl insL s) ≤ Lit.bulks s + Lit.bulks xs := by
    intro xs
    induction xs with
    | nil => intro s; simp [Lit.bulks]
    | cons x xs ih =>
      intro s
      have h1 := ih (insL s x)
      have h2 := insL_bulk s x
      rw [List.foldl_cons]
      simp only [Lit.bulks, List.length_cons]
      omega
  have := key xs []
  simp only [Lit.bulks, List.length_nil, Nat.zero_add] at this
  exact this
theorem mkR_bulk (xs : List Lit) (h : xs.length + Lit.bulks xs ≤ 1048576) : (mkR xs).bulk ≤ 1048576 := by
  unfold mkR
  split
  · have := makeL_bulk xs
    rw [Cl.bulk]; simp only; omega
  · simp [Cl.bulk, Lit.bulks]
theorem allAtom_iff (xs : List Lit) : allAtom xs = true ↔ ∀ x ∈ xs, x.atom.atom = true := by simp [allAtom]
theorem allAtom_bad {xs : List Lit} {k : Nat} (h : k < xs.length) (hb : xs[k].atom.atom = false) : allAtom xs = false := by
  rw [Bool.eq_false_iff]; intro e
  rw [allAtom_iff] at e
  rw [e _ (List.getElem_mem h)] at hb; cases hb
theorem mkR_no {xs : List Lit} (h : allAtom xs = false) : mkOk xs = false ∧ mkR xs = ⟨[]⟩ := by
  have : mkOk xs = false := by rw [mkOk, h]; rfl
  exact ⟨this, by rw [mkR, this]; rfl⟩
theorem mkR_yes {xs : List Lit} (h : allAtom xs = true) : mkOk xs = (⟨makeL xs⟩ : Cl).valid ∧ mkR xs = ifCl ⟨makeL xs⟩ := by
  have : mkOk xs = (⟨makeL xs⟩ : Cl).valid := by rw [mkOk, h]; rfl
  exact ⟨this, by rw [mkR, this]; rfl⟩

end Go.Proofs.YtooocakkjdhfiaaGreatDoor
/- A clause is normalized in rounds: plain. -/
namespace Go.Proofs.YtooocakkjdhfiaaGreatDoor
set_option maxRecDepth 100000
open Go.RowKit

theorem asc_steps : ∀ {l : List Lit}, (∀ j (h : j + 1 < l.length), Lit.cmp (l[j]'(Nat.lt_of_succ_lt h)) l[j + 1] < 0) → AscL l
  | [], _ => List.Pairwise.nil
  | [x], _ => by simp [AscL]
  | x :: y :: l, h => by
    have h1 := asc_steps (l := y :: l) (fun j hj => by have := h (j + 1) (by simpa using hj); simpa using this)
    have h0 : Lit.cmp x y < 0 := h 0 (by simp)
    have h2 := h1
    rw [AscL, List.pairwise_cons] at h2
    rw [AscL, List.pairwise_cons]
    refine ⟨fun b hb => ?_, h1⟩
    rcases List.mem_cons.1 hb with rfl | hb
    · exact h0
    · exact Lit.lt_trans h0 (h2.1 b hb)
theorem valid_asc {c : Cl} (h : c.valid = true) : AscL c.ls := by
  rw [Cl.valid, Bool.and_eq_true, Lit.allOk, List.all_eq_true] at h
  refine asc_steps fun j hj => ?_
  have := h.1 (j + 1) (List.mem_range.2 hj)
  rw [Lit.okAt_succ hj, Bool.and_eq_true, decide_eq_true_eq] at this
  exact this.2
theorem make_valid {c : Cl} (h : c.valid = true) : makeL c.ls = c.ls := asc_one (makeL_asc _) (valid_asc h) fun a => makeL_mem _ a
/-- the names of a clause -/
def Cl.names (c : Cl) : List ByteArray := Tm.colls c.atoms []
/-- n rounds behind a valid clause -/
def NormI (n : Nat) (c : Cl) : Prop := c.ls.length ≤ 8 ∧ ∀ x ∈ c.ls, x.atom.nice = true ∧ x.atom.leafy ∧ x.atom.size ≤ 30 ∧ x.atom.bulk ≤ 300 + 240 * n
theorem NormI.start {c : Cl} (h : c.valid = true) : NormI 0 c := by
  refine ⟨?_, fun x hx => ?_⟩
  · rw [Cl.valid, Bool.and_eq_true, decide_eq_true_eq] at h; exact h.2
  · have ha := Tm.atom_expr (Cl.atoms_ok h x.atom (List.mem_map.2 ⟨x, hx, rfl⟩))
    have hb := Tm.expr_bulk' ha
    exact ⟨Tm.expr_nice ha, Tm.expr_leafy ha, hb.2, by omega⟩
theorem lits_bulk (m : Nat) : ∀ ls : List Lit, (∀ x ∈ ls, x.atom.bulk ≤ m) → Lit.bulks ls ≤ m * ls.length
  | [], _ => by simp [Lit.bulks]
  | x :: ls, h => by
    have h0 := h x (by simp)
    have h1 := lits_bulk m ls fun a ha => h a (by simp [ha])
    rw [Lit.bulks, Lit.bulk, List.length_cons, Nat.mul_succ]
    omega
theorem NormI.bulk {n : Nat} {c : Cl} (h : NormI n c) (hn : n ≤ 10) : c.bulk ≤ 30000 ∧ c.ls.length + Lit.bulks c.ls ≤ 30000 := by
  have h1 := lits_bulk 2700 c.ls fun x hx => by have := (h.2 x hx).2.2.2; omega
  have h2 := h.1
  have h3 : 2700 * c.ls.length ≤ 2700 * 8 := Nat.mul_le_mul_left _ h2
  rw [Cl.bulk]
  omega
theorem NormI.nice {n : Nat} {c : Cl} (h : NormI n c) : ∀ a ∈ c.atoms, a.nice = true := by
  intro a ha
  obtain ⟨x, hx, rfl⟩ := List.mem_map.1 ha
  exact (h.2 x hx).1
theorem NormI.leafy {n : Nat} {c : Cl} (h : NormI n c) : ∀ a ∈ c.atoms, a.leafy := by
  intro a ha
  obtain ⟨x, hx, rfl⟩ := List.mem_map.1 ha
  exact (h.2 x hx).2.1
theorem sizes_le_mul (m : Nat) : ∀ ls : List Lit, (∀ x ∈ ls, x.atom.size ≤ m) → Tm.sizes (ls.map (·.atom)) ≤ m * ls.length
  | [], _ => by simp [Tm.sizes]
  | x :: ls, h => by
    have h0 := h x (by simp)
    have h1 := sizes_le_mul m ls fun a ha => h a (by simp [ha])
    rw [List.map_cons, Tm.sizes, List.length_cons, Nat.mul_succ]
    omega
theorem NormI.names {n : Nat} {c : Cl} (h : NormI n c) : c.names.length ≤ 240 := by
  have h1 := Tm.colls_length c.atoms []
  have h2 := sizes_le_mul 30 c.ls fun x hx => (h.2 x hx).2.2.1
  have h3 := h.1
  have h4 : 30 * c.ls.length ≤ 30 * 8 := Nat.mul_le_mul_left _ h3
  rw [Cl.names]
  simp only [List.length_nil, Nat.zero_add] at h1
  have : Tm.sizes c.atoms = Tm.sizes (c.ls.map (·.atom)) := rfl
  omega
theorem NormI.ren {n : Nat} {c : Cl} (h : NormI n c) {x : UInt8} (hx : upB x.toNat = true) {ks : List ByteArray} (hk : ks.length ≤ 240) : NormI (n + 1) (c.ren ⟨#[x]⟩ ks) := by
  refine ⟨?_, fun y hy => ?_⟩
  · have := makeL_bulk (c.ls.map (renL ⟨#[x]⟩ ks))
    have h1 := h.1
    rw [List.length_map] at this
    exact Nat.le_trans this.1 h1
  · rw [Cl.ren, makeL_mem] at hy
    obtain ⟨z, hz, rfl⟩ := List.mem_map.1 hy
    obtain ⟨h1, h2, h3, h4⟩ := h.2 z hz
    have q1 := Tm.ren_size ⟨#[x]⟩ ks z.atom
    have q2 := Tm.ren_bulk ⟨#[x]⟩ (ks := ks) (by omega) z.atom
    have q3 : (⟨#[x]⟩ : ByteArray).size = 1 := rfl
    rw [q3] at q2
    refine ⟨Tm.ren_nice hx (by omega) z.atom h1, Tm.ren_leafy _ _ z.atom h2, ?_, ?_⟩
    · show (Tm.ren _ _ z.atom).size ≤ 30
      omega
    · show (Tm.ren _ _ z.atom).bulk ≤ _
      omega
theorem NormI.rens {n : Nat} {c : Cl} (h : NormI n c) (hn : n < 10) {x : UInt8} {ks : List ByteArray} (hk : ks.length ≤ 240) : Lit.bulks (c.ls.map (renL ⟨#[x]⟩ ks)) ≤ 30000 := by
  have h1 := lits_bulk 2700 (c.ls.map (renL ⟨#[x]⟩ ks)) fun y hy => by
    obtain ⟨z, hz, rfl⟩ := List.mem_map.1 hy
    obtain ⟨-, -, h3, h4⟩ := h.2 z hz
    have q2 := Tm.ren_bulk ⟨#[x]⟩ (ks := ks) (by omega) z.atom
    have q3 : (⟨#[x]⟩ : ByteArray).size = 1 := rfl
    rw [q3] at q2
    show (Tm.ren _ _ z.atom).bulk ≤ _
    omega
  have h2 := h.1
  rw [List.length_map] at h1
  have h3 : 2700 * c.ls.length ≤ 2700 * 8 := Nat.mul_le_mul_left _ h2
  omega
theorem colls_var : ∀ (ts : List Tm) (l : List ByteArray), (∀ k ∈ l, varName k = true) → ∀ k ∈ Tm.colls ts l, varName k = true
  | [], l, h => by simpa [Tm.colls] using h
  | t :: ts, l, h => by rw [Tm.colls]; exact colls_var ts _ (coll_var t l h)
theorem Cl.names_var (c : Cl) : ∀ k ∈ c.names, varName k = true := colls_var _ _ (by simp)
theorem Cl.names_nodup (c : Cl) : c.names.Nodup := colls_nodup _ _ (by simp)
theorem D.rd_ltS {S : Nat → Prop} {w : World} : ∀ (d : D) (v : Value), D.rd S w v d → D.rd (fun x => S x ∧ x < w.heap.size) w v d := by
  refine D.ind (fun s v h => by rw [D.rd] at h ⊢; exact h) (fun n v h => by rw [D.rd] at h ⊢; exact h) (fun b v h => by rw [D.rd] at h ⊢; exact h) (fun n cs ih v h => ?_)
  rw [D.rd] at h ⊢
  obtain ⟨a, cap, h0, h1, h2, h3, h4⟩ := h
  refine ⟨a, cap, h0, h1, h2, h3, fun hne => ?_⟩
  obtain ⟨b, off, q0, q1, q2, q3⟩ := h4 hne
  refine ⟨b, off, q0, ⟨q1, q2⟩, q2, (D.rds_iff _ _).2 fun i hi => ?_⟩
  obtain ⟨v, r0, r1⟩ := (D.rds_iff _ _).1 q3 i hi
  exact ⟨v, r0, ih _ (List.getElem_mem hi) _ r1⟩
theorem upX : upB (88 : UInt8).toNat = true := by decide
theorem upY : upB (89 : UInt8).toNat = true := by decide
/-- one round -/
def Cl.step (c : Cl) : Cl := c.ren ⟨#[88]⟩ c.names
/-- at most n rounds -/
def normN : Nat → Cl → Cl
  | 0, c => c
  | n + 1, c => if normK c.names = true then c else normN n c.step
theorem normN_done {n : Nat} {c : Cl} (h : normK c.names = true) : normN n c = c := by
  cases n with
  | zero => rfl
  | succ n => rw [normN, if_pos h]
theorem normN_step {n : Nat} {c : Cl} (h : normK c.names = false) : normN (n + 1) c = normN n c.step := by rw [normN, if_neg (by rw [h]; decide)]
theorem NormI.step {n : Nat} {c : Cl} (h : NormI n c) : NormI (n + 1) c.step := h.ren upX h.names
theorem normN_I : ∀ (n k : Nat) (c : Cl), NormI k c → k + n ≤ 10 → NormI 10 (normN n c)
  | 0, k, c, h, hk => ⟨h.1, fun x hx => by
      obtain ⟨h1, h2, h3, h4⟩ := h.2 x hx
      exact ⟨h1, h2, h3, by omega⟩⟩
  | n + 1, k, c, h, hk => by
    rw [normN]
    split
    · exact ⟨h.1, fun x hx => by
        obtain ⟨h1, h2, h3, h4⟩ := h.2 x hx
        exact ⟨h1, h2, h3, by omega⟩⟩
    · exact normN_I n (k + 1) _ h.step (by omega)
/-- what NormalizeClause returns -/
def normOk (t : Cl) : Bool := t.valid && (normN 10 t).valid
def normR (t : Cl) : Cl := if normOk t = true then normN 10 t else ⟨[]⟩
theorem normR_bulk (t : Cl) : (normR t).bulk ≤ 1048576 := by
  rw [normR]
  split
  · rename_i h
    rw [normOk, Bool.and_eq_true] at h
    have := ((normN_I 10 0 t (NormI.start h.1) (by omega)).bulk (by omega)).1
    omega
  · simp [Cl.bulk, Lit.bulks]
theorem norm_no {t : Cl} (h : t.valid = false) : normOk t = false ∧ normR t = ⟨[]⟩ := by
  have : normOk t = false := by rw [normOk, h]; rfl
  exact ⟨this, by rw [normR, this]; rfl⟩
theorem norm_yes {t : Cl} (h : t.valid = true) : normOk t = (normN 10 t).valid ∧ normR t = ifCl (normN 10 t) := by
  have : normOk t = (normN 10 t).valid := by rw [normOk, h]; rfl
  exact ⟨this, by rw [normR, this]; rfl⟩
/-- what RenameApart returns -/
def apartOk (t : Cl) : Bool := t.valid && normK t.names
def apartR (t : Cl) : Cl := if apartOk t = true then t.ren ⟨#[89]⟩ t.names else ⟨[]⟩
theorem apartR_bulk (t : Cl) : (apartR t).bulk ≤ 1048576 := by
  rw [apartR]
  split
  · rename_i h
    rw [apartOk, Bool.and_eq_true] at h
    have h0 := NormI.start h.1
    have := ((h0.ren upY h0.names).bulk (by omega)).1
    omega
  · simp [Cl.bulk, Lit.bulks]
theorem apart_no {t : Cl} (h : ¬ (t.valid = true ∧ normK t.names = true)) : apartOk t = false ∧ apartR t = ⟨[]⟩ := by
  have : apartOk t = false := by
    rw [Bool.eq_false_iff]; intro q
    rw [apartOk, Bool.and_eq_true] at q
    exact h q
  exact ⟨this, by rw [apartR, this]; rfl⟩
theorem apart_yes {t : Cl} (h : t.valid = true) (h2 : normK t.names = true) : apartOk t = true ∧ apartR t = t.ren ⟨#[89]⟩ t.names := by
  have : apartOk t = true := by rw [apartOk, h, h2]; rfl
  exact ⟨this, by rw [apartR, this]; rfl⟩
end Go.Proofs.YtooocakkjdhfiaaGreatDoor
/- The program's renaming of a list of names. -/
namespace Go.Proofs.YtooocakkjdhfiaaGreatDoor
set_option maxRecDepth 100000
open Go.RowKit

theorem zeroStrM (w : World) : (zeroValue 9).run Tryz.prog w = .ok (.string ByteArray.empty) w := by kernel_rfl
set_option maxHeartbeats 2000000 in
theorem renaming_any (p : ByteArray) {ks : List ByteArray} {S : Nat → Prop} {v : Value} {w : World} (hp : p.size ≤ 1048576) (hks : ks.length ≤ 999999) (hn : ks.Nodup) (hT : TabF w) (hv : D.rd S w v (slOf strE ks)) :
    Calls Tryz.prog 46 #[v, .string p] w fun e w' => e = .returned (.map (some w.heap.size)) ∧ MapIs w' w.heap.size (kvR p ks) ∧ Below w.heap.size w w' := by
  obtain ⟨a, cap, rfl, hlen, hcap⟩ := slOf_form hv
  unfold big at hlen
  have HV := hid hv
  have HT := hid hT
  have HND := hid hn
  clear hv hT hn
  have HN0 : Hid (MapIs (w.alloc (.map #[] 0)) w.heap.size []) := MapIs.made w
  have hW : Below w.heap.size w (w.alloc (.map #[] 0)) := (Below.refl _ _).alloc (Nat.le_refl _) _
  have HZ : Hid ((w.alloc (.map #[] 0)).heap.size = w.heap.size + 1) := by simp [Hid]
  have hmm := @run_makeMap Tryz.prog
  go_enter Tryz.func46, Tryz.ntmps46
  go_wp2_with fail
  clear hmm
  generalize (w.alloc (.map #[] 0)) = w0 at *
  have hz0 := HZ.out
  go_loopw [11] (fun i wr => ∃ k : Nat, k ≤ ks.length ∧ i = .int .i64 k ∧ Hid (MapIs wr w.heap.size (kvR p (ks.take k))) ∧ Hid (Below w.heap.size w0 wr) ∧ w.heap.size + 1 ≤ wr.heap.size) (fun i _ => ks.length - (intOf i).toNat)
  case atStart => exact ⟨0, Nat.zero_le _, rfl, HN0, Below.refl _ _, by omega⟩
  case round =>
    obtain ⟨k, hk, rfl, HM, HB, hz⟩ := hrel
    have hkI : (0 : Int) ≤ (k : Int) := by omega
    have HBW := hid (hW.trans HB.out)
    by_cases hlt : k < ks.length
    · obtain ⟨b, off, rfl, -, hbl, hrr⟩ := strs_get (D.rd_keep (Keeps.all HBW.out) _ _ HV.out) (by intro e; subst e; simp at hlt)
      obtain ⟨q0, -⟩ := hrr k hlt
      clear hrr
      have hsz := itoaB_size (n := (k : Int)) (by omega) (by omega)
      have g4 : ¬ 9223372036854775807 < p.size + (itoaB (k : Int)).size := by omega
      have hq := itoa_any (n := (k : Int)) (by omega) (by omega) (TabF.keep HT.out HBW.out)
      go_wp2_with fail
      refine hq.mono ?_
      rintro e w2 ⟨_, rfl, hb2, rfl⟩
      have HM2 := hid (HM.out.keep (Keeps.all hb2))
      have HB2 := hid (HB.out.trans (hb2.mono (by omega)))
      have hz2 := hb2.size
      clear hq q0 hb2
      go_wp2_with (at_mapUpdate; go_must (refine wpList_put rfl _ _ _ (by rfl) HM2.out (by rw [kvR_keys]; exact HND.out.sublist (List.take_sublist _ _)) Tryz.underlying59 Tryz.underlying9 (by rfl) (by rfl) (by rfl) ?_; intro w3 hm3 hg3 hz3))
      rw [kvPut_none (kvR_fresh HND.out hlt)] at hm3
      have HM3 : Hid (MapIs w3 w.heap.size (kvR p (ks.take (k + 1)))) := by rw [Hid, kvR_snoc p ks k hlt]; exact hm3
      have HB3 := hid (HB2.out.grown hg3 (by omega) (fun x hx => by injection hx with hx; omega))
      clear hm3 hg3
      go_roundw
      case rel => exact ⟨k + 1, by omega, by go_num, HM3, HB3, by omega⟩
      case measure => simp [intOf]; omega
    · obtain rfl : k = ks.length := by omega
      have HM2 := HM.out
      rw [List.take_length] at HM2
      have hltn : ¬ (ks.length : Int) < (ks.length : Int) := by omega
      go_wp2_with fail
      go_ret
      exact ⟨rfl, HM2, HBW.out⟩
end Go.Proofs.YtooocakkjdhfiaaGreatDoor
/- The reference renames the variables of a term. -/
namespace Go.Proofs.YtooocakkjdhfiaaGreatDoor
set_option maxRecDepth 100000
open Go.RowKit

theorem ren_name (p : ByteArray) {ks : List ByteArray} (h : ks.length ≤ 999999) (t : Tm) : (Tm.ren p ks t).name.size ≤ t.name.size + p.size + 7 := by
  rw [Tm.ren_eq]; split
  · exact renN_size p t.name h
  · simp only [Tm.name]; omega
theorem Tm.css_snoc (ts : List Tm) (t : Tm) : Tm.css (ts ++ [t]) = Tm.css ts ++ [.str t.name, Tm.sd t.args] := by
  have := Tm.css_take_succ (ts ++ [t]) ts.length (by simp)
  rw [List.take_of_length_le (by simp)] at this
  simpa using this
theorem Tm.name_bulk (t : Tm) : t.name.size ≤ t.bulk := by
  cases t; simp only [Tm.name, Tm.bulk]; omega
/-- what l5Rename comes to -/
def RenS (p : ByteArray) (ks : List ByteArray) (t : Tm) : Prop := ∀ (S S' : Nat → Prop) (c0 c1 kv : Value) (w : World), Tm.at S w c0 c1 t → D.rd S' w kv (slOf strE ks) → t.bulk ≤ 1048576 → Calls Tryz.prog 54 #[.agg #[c0, c1], kv, .string p] w (MadeT (Tm.ren p ks t) w)
set_option maxHeartbeats 4000000 in
theorem renS_of (p : ByteArray) (ks : List ByteArray) (hp : p.size ≤ 1048576) (hks : ks.length ≤ 999999) (n : ByteArray) (ts : List Tm) (h : ∀ t ∈ ts, RenS p ks t) : RenS p ks (.node n ts) := by
  intro S S' c0 c1 kv w hr hv hbk
  obtain ⟨rfl, hn, a, cap, rfl⟩ := Tm.at_form hr
  have hs := hr.2
  rw [Tm.bulk] at hbk
  simp only [Tm.name, Tm.args] at hn hs ⊢
  clear hr
  obtain ⟨va, vc, rfl, hvl, hvc⟩ := slOf_form hv
  unfold big at hvl
  have HV := hid hv
  clear hv
  by_cases hvn : varName n = true
  · have HVN := hid hvn
    have HR : Hid (Tm.ren p ks (.node n ts) = .node (renN p ks n) []) := by rw [Hid, Tm.ren, if_pos hvn]
    clear hvn
    have hW : Below w.heap.size w ((w.alloc (.cells #[.string n, .slice a ts.length cap] 50)).alloc (.cells #[.string ByteArray.empty, .slice none 0 0] 50)) := ((Below.refl _ _).alloc (Nat.le_refl _) _).alloc (by simp) _
    have b0 : Box ((w.alloc (.cells #[.string n, .slice a ts.length cap] 50)).alloc (.cells #[.string ByteArray.empty, .slice none 0 0] 50)) w.heap.size [.string n, .slice a ts.length cap] := (Box.new w [Value.string n, .slice a ts.length cap] 50).alloc _
    have b1 : Box ((w.alloc (.cells #[.string n, .slice a ts.length cap] 50)).alloc (.cells #[.string ByteArray.empty, .slice none 0 0] 50)) (w.heap.size + 1) [.string ByteArray.empty, .slice none 0 0] := by
      have := Box.new (w.alloc (.cells #[.string n, .slice a ts.length cap] 50)) [Value.string ByteArray.empty, .slice none 0 0] 50
      simpa only [World.size_alloc] using this
    have f1 : ∀ p, ((w.alloc (.cells #[.string n, .slice a ts.length cap] 50)).alloc (.cells #[.string ByteArray.empty, .slice none 0 0] 50)).frozen? ⟨w.heap.size + 1, p, none⟩ = false := fun p => World.frozen?_alloc_at _ _ _ p (by simp)
    have x0 := b0.c0
    have hq := l2Var_any n hn ((w.alloc (.cells #[.string n, .slice a ts.length cap] 50)).alloc (.cells #[.string ByteArray.empty, .slice none 0 0] 50))
    go_enter Tryz.func54, Tryz.ntmps54
    go_wp2_with fail
    refine hq.mono ?_
    generalize ((w.alloc (.cells #[.string n, .slice a ts.length cap] 50)).alloc (.cells #[.string ByteArray.empty, .slice none 0 0] 50)) = w0 at *
    clear hq x0
    rintro e w1 ⟨rfl, rfl⟩
    rw [HVN.out]
    go_wp2_with fail
    go_loopw [7] (fun i wr => ∃ k : Nat, k ≤ ks.length ∧ i = .int .i64 k ∧ Hid (∀ j (h : j < ks.length), j < k → ks[j] ≠ n) ∧ Hid (Below w0.heap.size w0 wr)) (fun i _ => ks.length - (intOf i).toNat)
    case atStart => exact ⟨0, Nat.zero_le _, rfl, fun j h h' => absurd h' (by omega), Below.refl _ _⟩
    case round =>
      obtain ⟨k, hk, rfl, HX, HB⟩ := hrel
      have hkI : (0 : Int) ≤ (k : Int) := by omega
      have x0 := (b0.keep HB.out).c0
      have l0 := (b0.keep HB.out).lt
      have r0 := (b1.keep HB.out).c0
      have r1 := (b1.keep HB.out).c1
      have l1 := (b1.keep HB.out).lt
      have g0 := (HB.out.frozen (p := ⟨w.heap.size + 1, 0, none⟩) b1.lt).trans (f1 0)
      have g1 := (HB.out.frozen (p := ⟨w.heap.size + 1, 1, none⟩) b1.lt).trans (f1 1)
      have HBW := hid (hW.trans (HB.out.mono hW.size))
      by_cases hlt : k < ks.length
      · obtain ⟨b, off, rfl, -, hbl, hrr⟩ := strs_get (D.rd_keep (Keeps.all HBW.out) _ _ HV.out) (by intro e; subst e; simp at hlt)
        obtain ⟨q0, -⟩ := hrr k hlt
        clear hrr
        by_cases he : ks[k] = n
        · have HI : Hid (renN p ks n = numS p k) := by
            have e := idxS_at (n := n) (ks := ks) (k := k) hk HX.out (fun _ => he)
            rw [Hid, renN, e, if_pos hlt]
          have hq := show (ks[k].toList == n.toList) = true by rw [he]; simp
          have hz := itoaB_size (n := (k : Int)) (by omega) (by omega)
          have g4 : ¬ 9223372036854775807 < p.size + (itoaB (k : Int)).size := by omega
          have hnum := l1Num_any (k : Int) (by omega) (by omega)
          clear he
          go_wp2_with fail
          go_quiet (fail)
          have HBD : Hid (Below wr.heap.size wr (wr.drewN nq)) := ⟨rfl, rfl, rfl, Nat.le_refl _, fun _ _ => rfl⟩
          go_wp2_with fail
          refine (hnum _).mono ?_
          rintro e w2 ⟨_, rfl, hb2, rfl⟩
          have HB2 := hid (HBD.out.trans (hb2.mono HBD.out.size))
          have hz2 := HB2.out.size
          replace r0 := (HB2.out.cell (p := ⟨w.heap.size + 1, 0, none⟩) l1).trans r0
          replace r1 := (HB2.out.cell (p := ⟨w.heap.size + 1, 1, none⟩) l1).trans r1
          replace g0 := (HB2.out.frozen (p := ⟨w.heap.size + 1, 0, none⟩) l1).trans g0
          replace g1 := (HB2.out.frozen (p := ⟨w.heap.size + 1, 1, none⟩) l1).trans g1
          replace l1 := Nat.lt_of_lt_of_le l1 hz2
          clear hb2 q0 x0
          go_wp2_with fail
          refine bodyPost_ret (v := .agg #[.string (numS p k), .slice none 0 0]) (by simp [results, Tryz.results54, go_sem, r0, r1, numS]) rfl ?_
          refine ⟨_, [], by rw [HR.out, HI.out]; rfl, by rw [HR.out]; exact D.own_nil _ _, by simp, ?_⟩
          exact ((HBW.out.trans (HB2.out.mono HBW.out.size)).setCell (by simp) _).setCell (by simp) _
        · have HZ : Hid (∀ j (h : j < ks.length), j < k + 1 → ks[j] ≠ n) := fun j h h' => by
            by_cases hjk : j < k
            · exact HX.out j h hjk
            · obtain rfl : j = k := by omega
              exact he
          have hq := toList_ne he
          clear he
          go_wp2_with fail
          go_quiet (fail)
          have HBD := hid (HB.out.trans ((show Below wr.heap.size wr (wr.drewN nq) from ⟨rfl, rfl, rfl, Nat.le_refl _, fun _ _ => rfl⟩).mono HB.out.size))
          go_wp2_with fail
          go_roundw
          case rel => exact ⟨k + 1, by omega, by go_num, HZ, HBD⟩
          case measure => simp [intOf]; omega
      · obtain rfl : k = ks.length := by omega
        have HI : Hid (renN p ks n = n) := by
          have e := idxS_at (n := n) (ks := ks) (k := ks.length) (Nat.le_refl _) HX.out (fun h => absurd h (Nat.lt_irrefl _))
          rw [Hid, renN, e, if_neg (Nat.lt_irrefl _)]
        go_wp2_with fail
        refine bodyPost_ret (v := .agg #[.string n, .slice none 0 0]) (by simp [results, Tryz.results54, go_sem, r0, r1]) rfl ?_
        refine ⟨_, [], by rw [HR.out, HI.out]; rfl, by rw [HR.out]; exact D.own_nil _ _, by simp, ?_⟩
        exact (HBW.out.setCell (by simp) _).setCell (by simp) _
  · have HVN := hid (Bool.eq_false_iff.2 hvn)
    have HR : Hid (Tm.ren p ks (.node n ts) = .node n (Tm.rens p ks ts)) := by rw [Hid, Tm.ren, if_neg hvn]
    clear hvn
    have hlen := (Tm.sd_form hs)
    obtain ⟨_, _, e, hlen, hcap⟩ := hlen
    unfold big at hlen
    clear e
    have hq := l2Var_any n hn ((w.alloc (.cells #[.string n, .slice a ts.length cap] 50)).alloc (.cells #[.string ByteArray.empty, .slice none 0 0] 50))
    go_enter Tryz.func54, Tryz.ntmps54
    go_wp2_with fail
    refine hq.mono ?_
    clear hq
    rintro e w1 ⟨rfl, rfl⟩
    rw [HVN.out]
    go_wp2_with fail
    go_loopw [9] (fun i wr => ∃ (k : Nat) (F : List Nat) (v : Value), k ≤ ts.length ∧ i = .int .i64 k ∧ Gr wr (w.heap.size + 1 + 1 + 1) 50 2 v k (Tm.css (Tm.rens p ks (ts.take k))) F ∧ wr.cell? ⟨w.heap.size + 1 + 1, 0, none⟩ = some (.string n) ∧ wr.cell? ⟨w.heap.size + 1 + 1, 1, none⟩ = some v ∧ (∀ p, wr.frozen? ⟨w.heap.size + 1 + 1, p, none⟩ = false) ∧ w.heap.size + 1 + 1 + 1 ≤ wr.heap.size ∧ Below (w.heap.size + 1 + 1) (((w.alloc (.cells #[.string n, .slice a ts.length cap] 50)).alloc (.cells #[.string ByteArray.empty, .slice none 0 0] 50)).alloc (.cells #[.string n, .slice none 0 0] 50)) wr) (fun i _ => ts.length - (intOf i).toNat)
    case atStart =>
      refine ⟨0, [], .slice none 0 0, Nat.zero_le _, rfl, by rw [List.take_zero, Tm.rens, Tm.css]; exact Gr.nil _ _ _ _, (box3 w _ _ _ _ _ _ 0).2.2, (box3 w _ _ _ _ _ _ 1).2.2, fun p => frz1 _ _ _ _ _ (by simp), by simp, Below.refl _ _⟩
    case round =>
      obtain ⟨k, F, v, hk, rfl, HG, y0, y1, y2, hz, hb⟩ := hrel
      have hbw : Below w.heap.size w wr := (((((Below.refl _ _).alloc (Nat.le_refl _) _).alloc (by simp) _).alloc (by simp; omega) _).trans (hb.mono (by omega)))
      have x0 : wr.cell? ⟨w.heap.size, 0, none⟩ = some (.string n) := (hb.cell (p := ⟨w.heap.size, 0, none⟩) (by simp; omega)).trans (box3 w _ _ _ _ _ _ 0).1
      have x1 : wr.cell? ⟨w.heap.size, 1, none⟩ = some (.slice a ts.length cap) := (hb.cell (p := ⟨w.heap.size, 1, none⟩) (by simp; omega)).trans (box3 w _ _ _ _ _ _ 1).1
      by_cases hlt : k < ts.length
      · have HGl := HG.ltF
        have hne : ts ≠ [] := by intro e; subst e; simp at hlt
        obtain ⟨b, off, rfl, hS, hbl, hrr⟩ := Tm.sd_get hs hne
        obtain ⟨c0, c1, q0, q1, q2⟩ := hrr k hlt
        replace q0 := (hbw.cell (p := ⟨b, off + k * 2, none⟩) hbl).trans q0
        replace q1 := (hbw.cell (p := ⟨b, off + k * 2 + 1, none⟩) hbl).trans q1
        replace q2 := Tm.at_keep (Keeps.all hbw) q2
        have hmem := hid (h ts[k] (List.getElem_mem hlt))
        have hbk' := Tm.bulk_mem (List.getElem_mem hlt)
        obtain ⟨rfl, hnk, x, xc, rfl⟩ := Tm.at_form q2
        clear hrr
        have hv := HG.lt
        have hlb := hb.size
        simp only [World.size_alloc] at hlb
        have hbw2 : Below wr.heap.size wr wr.drew := (Below.refl _ _).drew
        have HVK := hid (D.rd_keep (Keeps.all hbw) _ _ HV.out)
        obtain ⟨R, HRK⟩ : ∃ R, Hid (Tm.ren p ks ts[k] = R) := ⟨_, hid rfl⟩
        have hRn : R.name.size ≤ maxLen := by
          have := ren_name p hks ts[k]
          rw [HRK.out] at this
          have := Tm.name_bulk ts[k]
          unfold maxLen
          omega
        go_wp2_with fail
        have hbne : b ≠ w.heap.size + 1 + 1 := by omega
        go_region_law (first
            | (refine step_append_gr (news := [.string R.name, .slice a1 R.args.length cap1]) (G := G) Tryz.underlying48 infoTerm rfl (by decide) (by decide) rfl _ _ (by rfl) (by rfl) (by rfl) (HG1.keep ((Below.refl _ _).alloc (Nat.le_refl _) _)) rfl (by intro j u hj; rw [box1]; simpa using hj) (by simp [Value.oneCell']) ((Tm.own_item hRn ho).keep (Keeps.all ((Below.refl _ _).alloc (Nat.le_refl _) _))) (fun x hx => by have := hG x hx; omega) (fun x hx hx' => by have := hG x hx'; have := HGl x hx; omega) (fun x hx hx' => by have := hG x hx'; have := (hv x hx).2; omega) (by omega) (by simp; omega) ?_
               intro g capg wg hg hgr hgo hglt
               have gc := fun (b' : Nat) (h' : b' < w.heap.size + 1 + 1 + 1) => grown_cell hgr (b := b') (by simp; omega) (fun x hx => by have := (hv x hx).1; omega)
               have y0g := ((gc (w.heap.size + 1 + 1) (by omega)).1 0).trans (cell_alloc y0' _)
               have y1g := ((gc (w.heap.size + 1 + 1) (by omega)).1 1).trans (cell_alloc y1' _)
               have y2g := fun p => ((gc (w.heap.size + 1 + 1) (by omega)).2 p).trans ((World.frozen?_alloc_past (w := w1) (.cells #[.string R.name, .slice a1 R.args.length cap1] 50) _ p (by omega)).trans (y2' p))
               have y2h := y2g 1
               clear gc)
            | (refine step_does rfl ?_
               unfold Does
               go_simp
               go_at_call 54
               have hq := hmem.out _ _ _ _ _ _ (Tm.at_keep (Keeps.all hbw2) q2) (D.rd_keep (Keeps.all hbw2) _ _ HVK.out) (by omega)
               rw [HRK.out] at hq
               refine hq.mono ?_
               clear hq
               rintro e w1 ⟨v1, G, rfl, ho, hG, hb1⟩
               obtain ⟨a1, cap1, rfl⟩ := Tm.sd_own_form ho
               have z := bcell hb1
               simp only [World.size_drew, World.cell?_drew, World.frozen?_drew] at z hG
               have hb2 : Below wr.heap.size wr w1 := hbw2.trans (hb1.mono (by simp))
               have hzb := hb2.size
               have HG1 := HG.keep hb2
               have y0' := (z.1 (w.heap.size + 1 + 1) 0 (by omega)).trans y0
               have y1' := (z.1 (w.heap.size + 1 + 1) 1 (by omega)).trans y1
               have y2' := fun p => (z.2 (w.heap.size + 1 + 1) p (by omega)).trans (y2 p)
               have y1b := fun o => cell_alloc y1' o
               clear z
               refine ⟨_, rfl, ?_⟩))
        all_goals
          have hz1 : wg.heap.size ≥ w1.heap.size := by have := hgr.size; simp at this; omega
          have hb5 : Below (w.heap.size + 1 + 1) wr wg := below_grown ((hb2.mono (by omega)).trans (((Below.refl _ _).alloc (by omega) _))) hgr (by simp; omega) (fun x hx => by have := (hv x hx).1; omega)
          go_wp2_with fail
          go_roundw
          case rel =>
            refine ⟨k + 1, F ++ G, .slice (some ⟨g, 0, none⟩) (k + 1) capg, by omega, by go_num, ?_, ?_, ?_, ?_, ?_, ?_⟩
            · rw [Tm.rens_take p ks ts k hlt, HRK.out, Tm.css_snoc, ← Tm.cs_eq]
              exact hg.setCell (by show w.heap.size + 1 + 1 < _; omega) _
            · rw [World.cell?_setCell_other _ _ _ _ (by intro e; injection e with _ e; omega)]; exact y0g
            · exact World.cell?_setCell_same _ _ _ y1g
            · intro p; rw [World.frozen?_setCell]; exact y2g p
            · rw [World.size_setCell]; omega
            · exact (hb.trans hb5).setCell (Nat.le_refl _) _
          case measure => simp [intOf]; omega
      · obtain rfl : k = ts.length := by omega
        rw [List.take_length] at HG
        obtain ⟨Gf, hO, hGf⟩ := HG.own (by decide)
        have hrl := Tm.rens_length p ks ts
        obtain ⟨R, HRR⟩ : ∃ R, Hid (Tm.rens p ks ts = R) := ⟨_, hid rfl⟩
        rw [HRR.out] at hO hrl
        rw [← hrl] at hO
        obtain ⟨a2, cap2, rfl⟩ := Tm.sd_own_form hO
        have r0 : wr.cell? ⟨w.heap.size + 1, 0, none⟩ = some (.string ByteArray.empty) := (hb.cell (p := ⟨w.heap.size + 1, 0, none⟩) (by simp)).trans (box3 w _ _ _ _ _ _ 0).2.1
        have r1 : wr.cell? ⟨w.heap.size + 1, 1, none⟩ = some (.slice none 0 0) := (hb.cell (p := ⟨w.heap.size + 1, 1, none⟩) (by simp)).trans (box3 w _ _ _ _ _ _ 1).2.1
        have f1 : ∀ p, wr.frozen? ⟨w.heap.size + 1, p, none⟩ = false := fun p => (hb.frozen (p := ⟨w.heap.size + 1, p, none⟩) (by simp)).trans ((World.frozen?_alloc_past _ _ p (by simp)).trans (World.frozen?_alloc_at _ _ _ p (by simp)))
        have f10 := f1 0
        have f11 := f1 1
        have hlb := hb.size
        simp only [World.size_alloc] at hlb
        have hlt2 : ¬ (ts.length : Int) < (ts.length : Int) := by omega
        clear hrl
        go_wp2_with fail
        refine bodyPost_ret (v := .agg #[.string n, .slice a2 R.length cap2]) (by simp [results, Tryz.results54, go_sem, r0, r1]) rfl ?_
        refine ⟨_, Gf, by rw [HR.out]; rfl, ?_, fun x hx => by have := hGf x hx; omega, ?_⟩
        · rw [HR.out]
          show D.own _ _ (Tm.sd (Tm.rens p ks ts)) _
          rw [HRR.out]
          exact D.own_keep _ _ _ (((Keeps.refl _ _).set_lt hGf (by simp) _).set_lt hGf (by simp) _) hO
        exact (hbw.setCell (by simp) _).setCell (by simp) _
theorem renS_any (p : ByteArray) (ks : List ByteArray) (hp : p.size ≤ 1048576) (hks : ks.length ≤ 999999) (t : Tm) : RenS p ks t := Tm.ind (fun n ts h => renS_of p ks hp hks n ts h) t
end Go.Proofs.YtooocakkjdhfiaaGreatDoor
