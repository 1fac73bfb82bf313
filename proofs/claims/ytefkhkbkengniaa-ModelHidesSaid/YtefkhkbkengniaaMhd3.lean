/- ModelHides: the walk. -/
import Derived.Test.YtefkhkbkengniaaMhd2
set_option linter.unusedVariables false
set_option linter.unusedSimpArgs false
namespace Go.Proofs.Ytefkhkbkengniaa
open Go.RowKit Go Go.Sort
theorem stagesDone {P : Program} {C : World → Prop} {Q : Exit → Act → World → Prop} {l : List Oper} {a : Act} {w : World} (h : Q .normal a w) : wpT1 P l.toArray C Q (opsAt l []) (wpStages P l C Q (fun a w => wpList P l.toArray Q (opsAt l []) a w) []) a w := h
theorem toList_inj {a b : ByteArray} (h : a.toList = b.toList) : a = b := by
  rw [ByteArray.toList_eq, ByteArray.toList_eq] at h
  cases a
  cases b
  simp only [ByteArray.mk.injEq]
  exact Array.toList_inj.1 h
theorem infoStr : (Try.prog.info? 9).map (fun i => (i.zero, i.size, i.bytes)) = some (some (.string ⟨#[]⟩), 1, 16) := by kernel_rfl
theorem Slc.takeE {E : Type} {w : World} {size cap : Nat} {A : Option Addr} {l : List E} {cells : E → List Value} (hc : ∀ x, (cells x).length = size) (h : Slc w size (.slice A l.length cap) l.length (l.flatMap cells)) {m : Nat} (hm : m ≤ l.length) :
    Slc w size (.slice A m cap) (l.take m).length ((l.take m).flatMap cells) := by
  obtain ⟨A', cap', e, h1, h2, h3, h4⟩ := h
  injection e with e1 e2 e3
  subst e1 e3
  have hl : (l.take m).length = m := by simp; omega
  have hfl := flat_len cells size (l.take m) (fun o _ => hc o)
  refine ⟨A, cap, by rw [hl], hfl, by omega, h3, fun h0 => ?_⟩
  obtain ⟨b, off, q1, q2, q3⟩ := h4 (by omega)
  refine ⟨b, off, q1, q2, fun j hj => ?_⟩
  have hlt : j < (l.flatMap cells).length := by
    rw [hfl, hl] at hj
    rw [h1]
    exact Nat.lt_of_lt_of_le hj (Nat.mul_le_mul_right size hm)
  rw [q3 j hlt]
  have e2 : l.flatMap cells = (l.take m).flatMap cells ++ (l.drop m).flatMap cells := by rw [← List.flatMap_append, List.take_append_drop]
  rw [e2, List.getElem?_append_left hj]
structure HdAt (w wr : World) (sb mb : Nat) (s : MS) (N : Nat) (vg : Value) (zs : List Int) (vd : Value) (ds : List ByteArray) (R : List Nat) : Prop where
  has : HasS w wr R [] sb mb s N
  g : wr.ownsRow w.heap.size 3 1 vg zs.length (ints zs)
  d : wr.ownsRow w.heap.size 9 1 vd ds.length (strs ds)
  gR : ∀ i, vg.ownBlock = some i → i ∈ R
  dR : ∀ i, vd.ownBlock = some i → i ∈ R
  hid : ∀ z ∈ zs, ∃ k : Nat, z = k ∧ k < s.all.length ∧ s.seenAt k = false
  dead : ∀ n ∈ ds, (s.find n).deleted = true
section
variable {w wr w' : World} {sb mb N : Nat} {s : MS} {vg vd : Value} {zs : List Int} {ds : List ByteArray} {R : List Nat}
theorem HdAt.keep (h : HdAt w wr sb mb s N vg zs vd ds R) (k : Only [] wr w') : HdAt w w' sb mb s N vg zs vd ds R :=
  ⟨h.has.keep k, own_only h.g k (by simp), own_only h.d k (by simp), h.gR, h.dR, h.hid, h.dead⟩
theorem HdAt.addR (h : HdAt w wr sb mb s N vg zs vd ds R) (k : Only [] wr w') {g : Nat} (h1 : wr.heap.size ≤ g) (h2 : g < w'.heap.size) : HdAt w w' sb mb s N vg zs vd ds (g :: R) :=
  ⟨h.has.addR k h1 h2, own_only h.g k (by simp), own_only h.d k (by simp), fun i hi => List.mem_cons_of_mem _ (h.gR i hi), fun i hi => List.mem_cons_of_mem _ (h.dR i hi), h.hid, h.dead⟩
theorem HdAt.ownR (h : HdAt w wr sb mb s N vg zs vd ds R) (k : Only [] wr w') {e : TypeId} {size n : Nat} {v : Value} {xs : List Value} (ho : w'.ownsRow wr.heap.size e size v n xs) : HdAt w w' sb mb s N vg zs vd ds (v.ownBlock.toList ++ R) := by
  cases hv : v.ownBlock with
  | none => simpa [hv] using h.keep k
  | some g =>
    have := ho.lt g hv
    simpa [hv] using h.addR k this.1 this.2
theorem HdAt.done (h : HdAt w wr sb mb s N vg zs vd ds R) {c : Cmd} (hs : HasS w w' R [] sb mb (s.do c).2 (N + 1)) (hk : Keeps w (R ++ []) wr w') : HdAt w w' sb mb (s.do c).2 (N + 1) vg zs vd ds R :=
  ⟨hs, hk.own h.g (fun i hi => .inr (by simp [h.gR i hi])), hk.own h.d (fun i hi => .inr (by simp [h.dR i hi])), h.gR, h.dR, fun z hz => by
    obtain ⟨k, rfl, h1, h2⟩ := h.hid z hz
    obtain ⟨more, hm⟩ := (do_stream s c h.has.ok ⟨#[]⟩).2.2
    exact ⟨k, rfl, by rw [hm, List.length_append]; omega, hid_stays h.has.ok h1 h2⟩, fun n hn => (do_stream s c h.has.ok n).2.1 (h.dead n hn)⟩
end
section
variable {w wr w' w1 : World} {sb mb N : Nat} {s : MS} {vg vd : Value} {zs : List Int} {ds : List ByteArray} {R : List Nat}
theorem HdAt.pushG (h : HdAt w wr sb mb s N vg zs vd ds R) (k1 : Only [] wr w1) {g cap q : Nat} (hq : q < s.all.length) (hs : s.seenAt q = false)
    (hown : w'.ownsRow w.heap.size 3 1 (.slice (some ⟨g, 0, none⟩) (zs.length + 1) cap) (zs.length + 1) (ints zs ++ [.int .i64 q])) (hg : w1.grownBy w' vg.ownBlock) (hl : vg.ownBlock = some g ∨ g = w1.heap.size) (hlt : g < w'.heap.size) :
    HdAt w w' sb mb s N (.slice (some ⟨g, 0, none⟩) (zs.length + 1) cap) (zs ++ [(q : Int)]) vd ds (g :: R) := by
  have hO : Only vg.ownBlock.toList wr w' := (k1.of_nil).grown hg (fun i hi => .inl (by simp [hi]))
  refine ⟨h.has.appended k1 h.gR hg hl hlt, ?_, own_only h.d hO (fun i hi q => ?_), fun i hi => ?_, fun i hi => List.mem_cons_of_mem _ (h.dR i hi), fun z hz => ?_, h.dead⟩
  · have e : ints (zs ++ [(q : Int)]) = ints zs ++ [.int .i64 q] := by unfold ints; rw [List.map_append]; rfl
    rw [e, List.length_append]
    exact hown
  · obtain ⟨c1, hc1⟩ := own_type h.d hi
    obtain ⟨c2, hc2⟩ := own_type h.g (g := i) (by simpa using q)
    exact hc1.other hc2 (by decide) rfl
  · cases hi
    simp
  · rcases List.mem_append.1 hz with q2 | q2
    · exact h.hid z q2
    · simp at q2
      exact ⟨q, q2, hq, hs⟩
theorem HdAt.pushD (h : HdAt w wr sb mb s N vg zs vd ds R) (k1 : Only [] wr w1) {g cap : Nat} {n : ByteArray} (hn : (s.find n).deleted = true)
    (hown : w'.ownsRow w.heap.size 9 1 (.slice (some ⟨g, 0, none⟩) (ds.length + 1) cap) (ds.length + 1) (strs ds ++ [.string n])) (hg : w1.grownBy w' vd.ownBlock) (hl : vd.ownBlock = some g ∨ g = w1.heap.size) (hlt : g < w'.heap.size) :
    HdAt w w' sb mb s N vg zs (.slice (some ⟨g, 0, none⟩) (ds.length + 1) cap) (ds ++ [n]) (g :: R) := by
  have hO : Only vd.ownBlock.toList wr w' := (k1.of_nil).grown hg (fun i hi => .inl (by simp [hi]))
  refine ⟨h.has.appended k1 h.dR hg hl hlt, own_only h.g hO (fun i hi q => ?_), ?_, fun i hi => List.mem_cons_of_mem _ (h.gR i hi), fun i hi => ?_, h.hid, fun m hm => ?_⟩
  · obtain ⟨c1, hc1⟩ := own_type h.g hi
    obtain ⟨c2, hc2⟩ := own_type h.d (g := i) (by simpa using q)
    exact hc1.other hc2 (by decide) rfl
  · have e : strs (ds ++ [n]) = strs ds ++ [.string n] := by unfold strs; rw [List.map_append]; rfl
    rw [e, List.length_append]
    exact hown
  · cases hi
    simp
  · rcases List.mem_append.1 hm with q2 | q2
    · exact h.dead m q2
    · simp at q2
      rw [q2]
      exact hn
end
set_option maxRecDepth 100000 in
set_option maxHeartbeats 2000000 in
theorem hides_go (w : World) (v1 : Value) (l : List CmdV) (h1 : CmdsAt w w v1 l) :
    Calls Try.prog 6 #[v1] w fun e w' => e = .returned (.bool true) ∧ Only [] w w' := by
  obtain ⟨A, cap, rfl, hnc, hcm, hel⟩ := h1.cells
  unfold maxLen at hcm
  obtain ⟨i0, hi, hz0, hz1, hz2⟩ := info_parts infoI
  obtain ⟨i1, hi1, hs0, hs1, hs2⟩ := info_parts infoStr
  have HL1 := Lib.hid (fun (W : World) (hw : Only [] w W) => show Calls Try.prog 10 #[.int .i64 40, .slice A l.length cap] W fun e w' => RetB e (fun b => b = true → l.length ≤ 40) ∧ Only [] W w' from light_any (h1.keep0 hw) 40 (by omega))
  go_enter Try.func6, Try.ntmps6
  go_wp2_with fail
  refine (HL1.out _ (Only.refl _ _)).mono ?_
  rintro e w1 ⟨⟨b1, rfl, hl1⟩, ho1⟩
  cases b1
  · go_wp2_with (go_at_call 11; refine (alive_any _).mono ?_; rintro e w3 ⟨rfl, ho3⟩)
    go_ret
    exact ⟨rfl, ho1.trans ho3⟩
  have hl40 : l.length ≤ 40 := hl1 rfl
  clear hl1
  go_wp2_with (go_at_call 12; refine (has_newS w _ ho1 [] (by simp)).mono ?_; rintro e w4 ⟨rfl, hh4, ho4⟩)
  obtain ⟨sb, hsb⟩ : ∃ sb, sb = w1.heap.size + 1 := ⟨_, rfl⟩
  obtain ⟨mb, hmb⟩ : ∃ mb, mb = w1.heap.size := ⟨_, rfl⟩
  rw [← hsb, ← hmb] at hh4
  have HSB := Lib.hid hsb
  clear hsb hmb
  go_loopw [4, 5, 6] (fun vg vd i wr => ∃ (k : Nat) (s : MS) (zs : List Int) (ds : List ByteArray) (R : List Nat), k ≤ l.length ∧ i = .int .i64 k ∧ zs.length ≤ 1000 * k ∧ ds.length ≤ k ∧ HdAt w wr sb mb s k vg zs vd ds R) (fun _ _ i _ => l.length - (intOf i).toNat)
  case atStart => exact ⟨0, MS.new, [], [], [], Nat.zero_le _, rfl, by simp, by simp, ⟨hh4, World.ownsRow_nil _ _ _ _, World.ownsRow_nil _ _ _ _, (fun i hi => by cases hi), (fun i hi => by cases hi), (fun z hz => by cases hz), (fun n hn => by cases hn)⟩⟩
  case round =>
    obtain ⟨k, s, zs, ds, R, hk, rfl, hz, hd, hH⟩ := hrel
    rw [← HSB.out]
    by_cases hlt : k < l.length
    · have hS := hH.has
      have hcell : ∀ W, Only [] w W → ∀ b (q1 : b < w.heap.size) (q2 : b < w.heap.size) (i : Nat), W.cell? ⟨b, i, none⟩ = w.cell? ⟨b, i, none⟩ := fun W hW b q1 q2 i => hW.cell q1 (by simp)
      have hevr := has_every hS (by omega)
      obtain ⟨Ag, cg, rfl, hg1, hg2⟩ := own_form hH.g
      obtain ⟨Ad, cd, rfl, hd1, hd2⟩ := own_form hH.d
      have HEv := Lib.hid hevr
      clear hevr
      go_wp2_with fail
      refine HEv.out.mono ?_
      rintro e w5 ⟨v5, rfl, hown5, ho5⟩
      have hH5 := hH.ownR ho5 hown5
      have hsl5 := (Slc.of_own hown5).1
      obtain ⟨A5, cap5, rfl, h51, h52⟩ := own_form hown5
      obtain ⟨R5, hR5⟩ : ∃ R5, R5 = (Value.slice A5 s.all.length cap5).ownBlock.toList ++ R := ⟨_, rfl⟩
      have hin5 : ∀ g, (Value.slice A5 s.all.length cap5).ownBlock = some g → g ∈ R5 := fun g hg => by rw [hR5]; simp [hg]
      rw [← hR5] at hH5
      clear hR5 hown5 hS hH HEv
      obtain ⟨b, off, rfl, hbb, hba, hcc⟩ := hel k hlt
      obtain ⟨x, hx⟩ : ∃ x, x = l[k] := ⟨_, rfl⟩
      have hxm : x ∈ l := by rw [hx]; exact List.getElem_mem hlt
      rw [← hx] at hcc
      have hxo := (h1.cmd x hxm).1
      obtain ⟨Ax, capx, hxv, hx1, hx2, _⟩ := (h1.cmd x hxm).2.1.openE EventR.cells (fun _ => rfl)
      have e0 : w.cell? ⟨b, off + k * 8, none⟩ = some (.int .i64 x.c.kind) := hcc 0 (by omega)
      have e1 : w.cell? ⟨b, off + k * 8 + 1, none⟩ = some (.int .i64 x.c.time) := hcc 1 (by omega)
      have e2 : w.cell? ⟨b, off + k * 8 + 2, none⟩ = some (.string x.c.stream) := hcc 2 (by omega)
      have e3 : w.cell? ⟨b, off + k * 8 + 3, none⟩ = some (.int .i64 x.c.expected) := hcc 3 (by omega)
      have e4 : w.cell? ⟨b, off + k * 8 + 4, none⟩ = some (.slice Ax x.c.events.length capx) := (hcc 4 (by omega)).trans (by rw [← hxv]; rfl)
      have e5 : w.cell? ⟨b, off + k * 8 + 5, none⟩ = some (.int .i64 x.c.mt.maxCount) := hcc 5 (by omega)
      have e6 : w.cell? ⟨b, off + k * 8 + 6, none⟩ = some (.int .i64 x.c.mt.maxAge) := hcc 6 (by omega)
      have e7 : w.cell? ⟨b, off + k * 8 + 7, none⟩ = some (.int .i64 x.c.mt.before) := hcc 7 (by omega)
      have hC : ∀ W, Only [] w W → ∀ i, W.cell? ⟨b, i, none⟩ = w.cell? ⟨b, i, none⟩ := fun W hW i => hW.cell hbb (by simp)
      have c0 := (hC w5 hH5.has.only _).trans e0
      have c1 := (hC w5 hH5.has.only _).trans e1
      have c2 := (hC w5 hH5.has.only _).trans e2
      have c3 := (hC w5 hH5.has.only _).trans e3
      have c4 := (hC w5 hH5.has.only _).trans e4
      have c5 := (hC w5 hH5.has.only _).trans e5
      have c6 := (hC w5 hH5.has.only _).trans e6
      have c7 := (hC w5 hH5.has.only _).trans e7
      have hdo := has_do (c := x.c) hH5.has (by omega) hxo ((h1.keep0 hH5.has.only).ev hxm)
      rw [hxv] at hdo
      obtain ⟨an, han⟩ : ∃ an, an = (s.do x.c).1 := ⟨_, rfl⟩
      rw [← han] at hdo
      unfold Cmd.val Ans.val at hdo
      have HD := Lib.hid hdo
      have HE := Lib.hid (And.intro e0 e2)
      have HC := Lib.hid hC
      have HAN := Lib.hid han
      clear hdo hcc hel hx hxv hcell e0 e1 e2 e3 e4 e5 e6 e7 hC han
      go_wp2_with (go_at_call 13; refine HD.out.mono ?_; rintro e w6 ⟨rfl, hS6, hk6⟩)
      have h6 := hH5.done hS6 hk6
      have hsl6 := hk6.slc hsl5 (fun g hg => .inr (by simp [hin5 g hg]))
      obtain ⟨S', hS'⟩ : ∃ S', S' = (s.do x.c).2 := ⟨_, rfl⟩
      have hmore := (do_stream s x.c hH5.has.ok ⟨#[]⟩).2.2
      have hdel := fun (hk : x.c.kind = 3) (he : an.err = 0) => deleted_by (s := s) (c := x.c) hk (by rw [← HAN.out]; exact he)
      have hdno := fun (hd : (s.find x.c.stream).deleted = true) (hk : x.c.kind ≤ 3) => dead_no (s := s) (c := x.c) hd hk
      rw [← HAN.out] at hdno
      have hsd := hH5.dead
      rw [← hS'] at h6 hmore hdel
      have hle : s.all.length ≤ S'.all.length := by obtain ⟨m, hm⟩ := hmore; rw [hm, List.length_append]; omega
      have hal' : S'.all.length ≤ 8 * (k + 1) := h6.has.ok.all
      have hb8 := Blk.new w6 29 #[.int .i64 an.err, .int .i64 an.version, .int .i64 an.position, .bool an.again]
      have h6b := h6.addR ((Only.refl [] w6).alloc (.cells #[.int .i64 an.err, .int .i64 an.version, .int .i64 an.position, .bool an.again] 29)) (Nat.le_refl _) (by simp)
      have hsl6b := hsl6.only0 ((Only.refl [] w6).alloc (.cells #[.int .i64 an.err, .int .i64 an.version, .int .i64 an.position, .bool an.again] 29))
      have HEv := Lib.hid (has_every h6b.has (by omega))
      clear hS' h6 hsl6 hS6 hk6 hH5 hsl5 HD c0 c1 c2 c3 c4 c5 c6 c7
      refine HEv.out.mono ?_
      rintro e w7 ⟨v7, rfl, hown7, ho7⟩
      have h7 := h6b.ownR ho7 hown7
      have hsl5 := hsl6b.only0 ho7
      have hb8 := ho7.blk hb8 (by simp)
      have hsl7 := (Slc.of_own hown7).1
      obtain ⟨A7, cap7, rfl, h71, h72⟩ := own_form hown7
      obtain ⟨R7, hR7⟩ : ∃ R7, R7 = (Value.slice A7 S'.all.length cap7).ownBlock.toList ++ w6.heap.size :: R5 := ⟨_, rfl⟩
      have hin7 : ∀ g, (Value.slice A7 S'.all.length cap7).ownBlock = some g → g ∈ R7 := fun g hg => by rw [hR7]; simp [hg]
      have hin8 : w6.heap.size ∈ R7 := by rw [hR7]; simp
      rw [← hR7] at h7
      have htk := Slc.takeE (cells := StoredR.cells) (size := 8) (fun _ => rfl) hsl7 hle
      have hlt7 : (S'.all.take s.all.length).length = s.all.length := by simp; omega
      have hsm := sameL_any htk hsl5 (by omega) (by omega)
      rw [sameL_take hmore] at hsm
      have hsm' : Calls Try.prog 23 #[.slice A7 s.all.length cap7, .slice A5 s.all.length cap5] w7 fun e w' => e = .returned (.bool true) ∧ Only [] w7 w' := hsm
      have HSm := Lib.hid hsm'
      have hlei : decide (S'.all.length < s.all.length) = false := by simp; omega
      have hlej : ¬ ((S'.all.length : Int) < s.all.length) := by omega
      have hcap7 : s.all.length ≤ cap7 := by omega
      unfold maxLen at h72
      clear hsm hsm' hlt7 hR7 hsl6b h6b HEv
      go_wp2_with (go_at_call 23; refine HSm.out.mono ?_; rintro e w8 ⟨rfl, ho8⟩)
      have h8 := h7.keep ho8
      have hb8 := ho8.blk hb8 (by simp)
      have hsl7 := hsl7.only0 ho8
      have hown8 := own_base (own_only hown7 ho8 (by simp)) (Nat.zero_le _)
      obtain ⟨_, _, eg, _, _, helg⟩ := (Slc.of_own h8.g).1.openI
      injection eg with eg1 eg2 eg3
      subst eg1 eg3
      obtain ⟨_, _, ed, _, _, held⟩ := (Slc.of_own h8.d).1.openS
      injection ed with ed1 ed2 ed3
      subst ed1 ed3
      have hzb : zs.length ≤ 40000 := by omega
      clear h7 HSm hlei hlej hcap7 htk hsl5
      go_loopw [10] (fun i wr => ∃ j : Nat, j ≤ zs.length ∧ i = .int .i64 j ∧ Only [] w8 wr) (fun i _ => zs.length - (intOf i).toNat)
      case atStart => exact ⟨0, Nat.zero_le _, rfl, Only.refl _ _⟩
      case round =>
        obtain ⟨j, hj, rfl, hO⟩ := hrel
        by_cases hjlt : j < zs.length
        · obtain ⟨bg, og, rfl, hbg, hcg⟩ := helg j hjlt
          have c0 := (hO.cell hbg (by simp)).trans hcg
          obtain ⟨qz, hqz, hqz1, hqz2⟩ := h8.hid zs[j] (List.getElem_mem hjlt)
          have hsn := has_seen (h8.has.keep hO) (by omega) qz
          rw [hqz2] at hsn
          rw [hqz] at c0
          have HSn := Lib.hid hsn
          clear hcg helg held hqz hqz2 hsn
          go_wp2_with (go_at_call 24; refine HSn.out.mono ?_; rintro e w9 ⟨rfl, ho9⟩)
          exact ⟨⟨j + 1, hjlt, by simp, hO.trans ho9⟩, by simp [intOf]; omega⟩
        · have h9 := h8.keep hO
          have hb9 := hO.blk hb8 (by simp)
          have hsl9 := hsl7.only0 hO
          have hown9 := own_only hown8 hO (by simp)
          have held9 : ∀ m (hm : m < ds.length), ∃ b off, Ad = some ⟨b, off, none⟩ ∧ b < wr.heap.size ∧ wr.cell? ⟨b, off + m, none⟩ = some (.string ds[m]) := fun m hm => by
            obtain ⟨b', o', q1, q2, q3⟩ := held m hm
            exact ⟨b', o', q1, Nat.lt_of_lt_of_le q2 hO.size, (hO.cell q2 (by simp)).trans q3⟩
          obtain ⟨W9, hW9⟩ : ∃ W9, W9 = wr := ⟨_, rfl⟩
          rw [← hW9] at h9 hb9 hsl9 held9 hown9
          have hW9' := Lib.hid hW9
          clear helg held h8 hb8 hsl7 hown8 hown7 hj
          go_wp2
          go_loopw [11] (fun i wr => ∃ m : Nat, m ≤ ds.length ∧ i = .int .i64 m ∧ Only [] W9 wr) (fun i _ => ds.length - (intOf i).toNat)
          case atStart => exact ⟨0, Nat.zero_le _, rfl, by rw [hW9'.out]; exact Only.refl _ _⟩
          case round =>
            clear hO hW9 hW9' hjlt
            obtain ⟨m, hm, rfl, hO⟩ := hrel
            by_cases hmlt : m < ds.length
            · obtain ⟨bd, od, rfl, hbd, hcd⟩ := held9 m hmlt
              have d0 := (hO.cell hbd (by simp)).trans hcd
              obtain ⟨dn, hdn⟩ : ∃ dn, dn = ds[m] := ⟨_, rfl⟩
              have hdead := h9.dead dn (by rw [hdn]; exact List.getElem_mem hmlt)
              have hdead0 := hsd dn (by rw [hdn]; exact List.getElem_mem hmlt)
              rw [← hdn] at d0
              have hdl := fun (W : World) (hW : Only [] wr W) => has_deleted (h9.has.keep (hO.trans hW)) dn
              rw [hdead] at hdl
              have HDl := Lib.hid hdl
              have hcw := fun i => HC.out wr (h9.has.only.trans hO) i
              have x0 := (hcw _).trans HE.out.1
              have x2 := (hcw _).trans HE.out.2
              have a0 := (hO.blk hb9 (by simp)).cell 0
              have y0 := Kept.cell (a := wr) (R := []) d0 (.inl (block_lt_of_cell d0))
              have y1 := Kept.cell (a := wr) (R := []) x0 (.inl (block_lt_of_cell x0))
              have y2 := Kept.cell (a := wr) (R := []) x2 (.inl (block_lt_of_cell x2))
              have y3 := Kept.cell (a := wr) (R := []) a0 (.inl (block_lt_of_cell a0))
              have hdi : x.c.stream.toList = dn.toList → x.c.kind ≤ 3 → an.err ≠ 0 := fun e hk => hdno (by rw [toList_inj e]; exact hdead0) hk
              have HDI := Lib.hid hdi
              clear hcd held9 hdn hdead hdl hcw hdi hdno hdead0 hsd d0 x0 x2 a0
              by_cases q1 : x.c.stream.toList = dn.toList
              · have q1b : (x.c.stream.toList == dn.toList) = true := by rw [beq_iff_eq]; exact q1
                by_cases q2 : x.c.kind ≤ 3
                · have q2b : decide (x.c.kind ≤ 3) = true := decide_eq_true q2
                  have q3 : (an.err == 0) = false := by rw [beq_eq_false_iff_ne]; exact HDI.out q1 q2
                  clear q1
                  go_wp2_with fail
                  refine wp_region_stages (C := fun W => ∃ p : Kept wr [] wr, W = p.W) [([0, 1, 2, 3, 4], [5]), ([6, 7, 8, 9, 10, 11, 12, 13, 14, 15, 16, 17, 18, 19, 20, 21, 22, 23, 24, 25, 26, 27, 28, 29, 30, 31], [])] [] (by kernel_rfl) (by kernel_rfl) (by intro c d u a w h; cases d <;> exact h) ⟨⟨_, (Keeps.refl _ _ _).drew⟩, rfl⟩ ?_
                  refine stagesFirst ?_
                  show wpQuiet _ _ _ _ [_, _, _, _, _] _
                  repeat (go_big_quiet_step (fail))
                  refine wpQuiet_nil ?_
                  show wpList _ _ _ [_] _ _
                  go_wp2_with (go_at_call 15; refine (HDl.out _ (Only.refl _ _).drew).mono ?_; rintro e w9 ⟨rfl, ho9⟩)
                  refine check_kept ((Keeps.refl _ _ _).drew.then0 ho9) ?_
                  refine stagesNext ?_
                  show wpQuiet _ _ _ _ [_, _, _, _, _, _, _, _, _, _, _, _, _, _, _, _, _, _, _, _, _, _, _, _, _, _] _
                  try go_frame
                  repeat (go_big_quiet_step (fail))

                  refine wpQuiet_nil ?_
                  refine stagesDone ?_
                  go_wp2
                  exact ⟨⟨m + 1, hmlt, by simp, (hO.drew).trans ho9⟩, by simp [intOf]; omega⟩
                · have q2b : decide (x.c.kind ≤ 3) = false := decide_eq_false q2
                  clear q1
                  go_wp2_with fail
                  refine wp_region_stages (C := fun W => ∃ p : Kept wr [] wr, W = p.W) [([0, 1, 2, 3, 4], [5]), ([6, 7, 8, 9, 10, 11, 12, 13, 14, 15, 16, 17, 18, 19, 20, 21, 22, 23, 24, 25, 26, 27, 28, 29, 30, 31], [])] [] (by kernel_rfl) (by kernel_rfl) (by intro c d u a w h; cases d <;> exact h) ⟨⟨_, (Keeps.refl _ _ _).drew⟩, rfl⟩ ?_
                  refine stagesFirst ?_
                  show wpQuiet _ _ _ _ [_, _, _, _, _] _
                  repeat (go_big_quiet_step (fail))
                  refine wpQuiet_nil ?_
                  show wpList _ _ _ [_] _ _
                  go_wp2_with (go_at_call 15; refine (HDl.out _ (Only.refl _ _).drew).mono ?_; rintro e w9 ⟨rfl, ho9⟩)
                  refine check_kept ((Keeps.refl _ _ _).drew.then0 ho9) ?_
                  refine stagesNext ?_
                  show wpQuiet _ _ _ _ [_, _, _, _, _, _, _, _, _, _, _, _, _, _, _, _, _, _, _, _, _, _, _, _, _, _] _
                  try go_frame
                  repeat (go_big_quiet_step (fail))

                  refine wpQuiet_nil ?_
                  refine stagesDone ?_
                  go_wp2
                  exact ⟨⟨m + 1, hmlt, by simp, (hO.drew).trans ho9⟩, by simp [intOf]; omega⟩
              · have q1b : (x.c.stream.toList == dn.toList) = false := by rw [beq_eq_false_iff_ne]; exact q1
                clear q1
                go_wp2_with fail
                refine wp_region_stages (C := fun W => ∃ p : Kept wr [] wr, W = p.W) [([0, 1, 2, 3, 4], [5]), ([6, 7, 8, 9, 10, 11, 12, 13, 14, 15, 16, 17, 18, 19, 20, 21, 22, 23, 24, 25, 26, 27, 28, 29, 30, 31], [])] [] (by kernel_rfl) (by kernel_rfl) (by intro c d u a w h; cases d <;> exact h) ⟨⟨_, (Keeps.refl _ _ _).drew⟩, rfl⟩ ?_
                refine stagesFirst ?_
                show wpQuiet _ _ _ _ [_, _, _, _, _] _
                repeat (go_big_quiet_step (fail))
                refine wpQuiet_nil ?_
                show wpList _ _ _ [_] _ _
                go_wp2_with (go_at_call 15; refine (HDl.out _ (Only.refl _ _).drew).mono ?_; rintro e w9 ⟨rfl, ho9⟩)
                refine check_kept ((Keeps.refl _ _ _).drew.then0 ho9) ?_
                refine stagesNext ?_
                show wpQuiet _ _ _ _ [_, _, _, _, _, _, _, _, _, _, _, _, _, _, _, _, _, _, _, _, _, _, _, _, _, _] _
                try go_frame
                repeat (go_big_quiet_step (fail))

                refine wpQuiet_nil ?_
                refine stagesDone ?_
                go_wp2
                exact ⟨⟨m + 1, hmlt, by simp, (hO.drew).trans ho9⟩, by simp [intOf]; omega⟩
            · have hme : m = ds.length := by omega
              subst hme
              have h10 := h9.keep hO
              have hb10 := hO.blk hb9 (by simp)
              have hown10 := own_only hown9 hO (by simp)
              have hcw := fun i => HC.out wr (h9.has.only.trans hO) i
              have x0 := (hcw _).trans HE.out.1
              have x2 := (hcw _).trans HE.out.2
              have a0 := hb10.cell 0
              clear hcw h9 hb9 hown9 held9 hsl9
              by_cases t1 : x.c.kind = 3
              · by_cases t2 : an.err = 0
                · have hdn := hdel t1 t2
                  have t1b : (x.c.kind == 3) = true := by rw [beq_iff_eq]; exact t1
                  have t2b : (an.err == 0) = true := by rw [beq_iff_eq]; exact t2
                  clear t1 t2 hdno hsd hdel
                  go_wp2_with (at_builtin; refine wpList_append_lies rfl (.tmp 111) (.tmp 117) 54 rfl w.heap.size 9 i1 (.string ⟨#[]⟩) 1 16 Try.underlying54 hi1 hs0 hs1 hs2 rfl (by decide) (.slice Ad ds.length cd) ds.length _ rfl (own_only h10.d ((Only.refl [] wr).alloc _) (by simp)) ⟨wr.heap.size, 0, none⟩ 1 1 [.string x.c.stream] rfl rfl (news_blk (Blk.new wr 9 _)) ?c2 (by decide) ?c3 ?c4 ?c5 ?_)
                  case c2 => simp [Value.oneCell']
                  case c3 => unfold maxLen; omega
                  case c4 => omega
                  case c5 => have := h10.has.only.size; simp; omega
                  intro g4 cap4 w4 hown4 hgrow4 hlie4 hg4
                  have h11 := h10.pushD ((Only.refl [] wr).alloc _) hdn hown4 hgrow4 (hlie4.imp id (fun q => by rw [q]; simp)) hg4
                  have hown11 := own_only hown10 (((Only.refl (Value.slice Ad ds.length cd).ownBlock.toList wr).alloc _).grown hgrow4 (fun i hi => .inl (by simp [hi]))) (fun i hi q => by
                    obtain ⟨c1, hc1⟩ := own_type hown10 hi
                    obtain ⟨c2, hc2⟩ := own_type h10.d (g := i) (by simpa using q)
                    exact hc1.other hc2 (by decide) rfl)
                  clear hgrow4 hlie4 hown4 h10 hown10 x0 x2 a0 t1b t2b hb10 hO
                  obtain ⟨dsx, hdsx⟩ : ∃ dsx, dsx = ds ++ [x.c.stream] := ⟨_, rfl⟩
                  obtain ⟨vdx, hvdx⟩ : ∃ vdx, vdx = Value.slice (some ⟨g4, 0, none⟩) (ds.length + 1) cap4 := ⟨_, rfl⟩
                  have hdx : dsx.length ≤ k + 1 := by rw [hdsx]; simp; omega
                  rw [← hdsx, ← hvdx] at h11
                  rw [← hvdx]
                  clear hdsx hvdx
                  go_wp2
                  go_loopw [4, 12] (fun vg i wr => ∃ (j : Nat) (zq : List Int) (R' : List Nat), j ≤ S'.all.length ∧ i = .int .i64 j ∧ zq.length ≤ zs.length + j ∧ wr.ownsRow 0 48 8 (.slice A7 S'.all.length cap7) S'.all.length (S'.all.flatMap StoredR.cells) ∧ HdAt w wr sb mb S' (k + 1) vg zq vdx dsx R') (fun _ i _ => S'.all.length - (intOf i).toNat)
                  case atStart => exact ⟨0, zs, _, Nat.zero_le _, rfl, by simp, hown11, h11⟩
                  case round =>
                    obtain ⟨j2, zq, R2, hj2, rfl, hzq, hown12, h12⟩ := hrel
                    by_cases hjl : j2 < S'.all.length
                    · obtain ⟨_, _, e7, _, _, hel7⟩ := (Slc.of_own hown12).1.openE StoredR.cells (fun _ => rfl)
                      injection e7 with e71 e72 e73
                      subst e71 e73
                      obtain ⟨b7, o7, rfl, hb7, hc7⟩ := hel7 j2 hjl
                      have p6 := hc7 6 (by omega)
                      have p6' : wr.cell? ⟨b7, o7 + j2 * 8 + 6, none⟩ = some (.int .i64 (S'.all[j2]).position) := p6
                      rw [h12.has.inv.pos j2 hjl] at p6'
                      have hs12 := has_seen h12.has (by omega) j2
                      obtain ⟨Az, cz, rfl, hz5, hz6⟩ := own_form h12.g
                      have hzs := (Slc.of_own h12.g).1
                      have HP := Lib.hid (fun (W : World) (hW : Only [] wr W) => (hW.cell hb7 (by simp)).trans p6')
                      clear hc7 p6 hel7
                      by_cases qs : S'.seenAt j2 = true
                      · rw [qs] at hs12
                        have HSn := Lib.hid hs12
                        clear hs12 qs hzs
                        go_wp2_with (go_at_call 24; refine HSn.out.mono ?_; rintro e w9 ⟨rfl, ho9⟩)
                        exact ⟨⟨j2 + 1, zq, R2, hjl, by simp, by omega, own_only hown12 ho9 (by simp), h12.keep ho9⟩, by simp [intOf]; omega⟩
                      · have qf : S'.seenAt j2 = false := by simpa using qs
                        rw [qf] at hs12
                        have HSn := Lib.hid hs12
                        clear hs12 qs
                        by_cases qz : zq.length = 0
                        · obtain rfl : zq = [] := List.length_eq_zero_iff.1 qz
                          clear hzs qz
                          go_wp2_with fail
                          refine HSn.out.mono ?_
                          rintro e w9 ⟨rfl, ho9⟩
                          have p9 := HP.out w9 ho9
                          have h13 := h12.keep ho9
                          have hown13 := own_only hown12 ho9 (by simp)
                          clear p6' h12 hown12
                          go_wp2_with (at_builtin; refine wpList_append_lies rfl (.tmp 156) (.tmp 158) 51 rfl w.heap.size 3 i0 (.int .i64 0) 1 8 Try.underlying51 hi hz0 hz1 hz2 rfl (by decide) (.slice Az 0 cz) 0 _ rfl (own_only h13.g ((Only.refl [] w9).alloc _) (by simp)) ⟨w9.heap.size, 0, none⟩ 1 1 [.int .i64 j2] rfl rfl (news_blk (Blk.new w9 3 _)) ?c2 (by decide) ?c3 ?c4 ?c5 ?_)
                          case c2 => simp [Value.oneCell']
                          case c3 => unfold maxLen; omega
                          case c4 => omega
                          case c5 => have := h13.has.only.size; simp; omega
                          intro g5 cap5' w5' hown5' hgrow5 hlie5 hg5
                          have h14 := h13.pushG ((Only.refl [] w9).alloc _) hjl qf hown5' hgrow5 (hlie5.imp id (fun q => by rw [q]; simp)) hg5
                          have hown14 := own_only hown13 (((Only.refl (Value.slice Az 0 cz).ownBlock.toList w9).alloc _).grown hgrow5 (fun i hi => .inl (by simp [hi]))) (fun i hi q => by
                            obtain ⟨c1, hc1⟩ := own_type hown13 hi
                            obtain ⟨c2, hc2⟩ := own_type h13.g (g := i) (by simpa using q)
                            exact hc1.other hc2 (by decide) rfl)
                          clear hgrow5 hlie5 hown5' h13 hown13
                          go_wp2
                          exact ⟨⟨j2 + 1, ([] : List Int) ++ [(j2 : Int)], _, hjl, by simp, by simp; omega, hown14, h14⟩, by simp [intOf]; omega⟩
                        · have qzb : (zq.length == 0) = false := by rw [beq_eq_false_iff_ne]; exact qz
                          go_wp2_with fail
                          refine HSn.out.mono ?_
                          rintro e w9 ⟨rfl, ho9⟩
                          have hin := in_any (hzs.only0 ho9) (by omega) (j2 : Int)
                          have HP9 := Lib.hid (fun (W : World) (hW : Only [] w9 W) => HP.out W (ho9.trans hW))
                          have h13 := h12.keep ho9
                          have hown13 := own_only hown12 ho9 (by simp)
                          clear p6' h12 hown12 HP
                          by_cases qi : isIn zq j2 = true
                          · rw [qi] at hin
                            have HIn := Lib.hid hin
                            clear hin
                            go_wp2_with (go_at_call 25; refine HIn.out.mono ?_; rintro e w10 ⟨rfl, ho10⟩)
                            exact ⟨⟨j2 + 1, zq, R2, hjl, by simp, by omega, own_only hown13 ho10 (by simp), h13.keep ho10⟩, by simp [intOf]; omega⟩
                          · have qif : isIn zq j2 = false := by simpa using qi
                            rw [qif] at hin
                            have HIn := Lib.hid hin
                            clear hin qi
                            go_wp2_with fail
                            refine HIn.out.mono ?_
                            rintro e w10 ⟨rfl, ho10⟩
                            have p9 := HP9.out w10 ho10
                            have h13 := h13.keep ho10
                            have hown13 := own_only hown13 ho10 (by simp)
                            go_wp2_with (at_builtin; refine wpList_append_lies rfl (.tmp 156) (.tmp 158) 51 rfl w.heap.size 3 i0 (.int .i64 0) 1 8 Try.underlying51 hi hz0 hz1 hz2 rfl (by decide) (.slice Az zq.length cz) zq.length _ rfl (own_only h13.g ((Only.refl [] w10).alloc _) (by simp)) ⟨w10.heap.size, 0, none⟩ 1 1 [.int .i64 j2] rfl rfl (news_blk (Blk.new w10 3 _)) ?c2 (by decide) ?c3 ?c4 ?c5 ?_)
                            case c2 => simp [Value.oneCell']
                            case c3 => unfold maxLen; omega
                            case c4 => omega
                            case c5 => have := h13.has.only.size; simp; omega
                            intro g5 cap5' w5' hown5' hgrow5 hlie5 hg5
                            have h14 := h13.pushG ((Only.refl [] w10).alloc _) hjl qf hown5' hgrow5 (hlie5.imp id (fun q => by rw [q]; simp)) hg5
                            have hown14 := own_only hown13 (((Only.refl (Value.slice Az zq.length cz).ownBlock.toList w10).alloc _).grown hgrow5 (fun i hi => .inl (by simp [hi]))) (fun i hi q => by
                              obtain ⟨c1, hc1⟩ := own_type hown13 hi
                              obtain ⟨c2, hc2⟩ := own_type h13.g (g := i) (by simpa using q)
                              exact hc1.other hc2 (by decide) rfl)
                            clear hgrow5 hlie5 hown5' h13 hown13
                            go_wp2
                            exact ⟨⟨j2 + 1, zq ++ [(j2 : Int)], _, hjl, by simp, by simp; omega, hown14, h14⟩, by simp [intOf]; omega⟩
                    · have hje : j2 = S'.all.length := by omega
                      subst hje
                      go_wp2
                      exact ⟨⟨k + 1, S', zq, dsx, R2, by omega, by simp, by omega, hdx, h12⟩, by simp [intOf]; omega⟩
                · have t1b : (x.c.kind == 3) = true := by rw [beq_iff_eq]; exact t1
                  have t2b : (an.err == 0) = false := by rw [beq_eq_false_iff_ne]; exact t2
                  clear t1 t2 hdno hsd hdel
                  have h11 := h10
                  have hown11 := hown10
                  obtain ⟨dsx, hdsx⟩ : ∃ dsx, dsx = ds := ⟨_, rfl⟩
                  obtain ⟨vdx, hvdx⟩ : ∃ vdx, vdx = Value.slice Ad ds.length cd := ⟨_, rfl⟩
                  have hdx : dsx.length ≤ k + 1 := by rw [hdsx]; omega
                  clear h10 hown10
                  go_wp2_with fail
                  rw [← hvdx] at h11 ⊢
                  rw [← hdsx] at h11
                  clear hdsx hvdx
                  go_loopw [4, 12] (fun vg i wr => ∃ (j : Nat) (zq : List Int) (R' : List Nat), j ≤ S'.all.length ∧ i = .int .i64 j ∧ zq.length ≤ zs.length + j ∧ wr.ownsRow 0 48 8 (.slice A7 S'.all.length cap7) S'.all.length (S'.all.flatMap StoredR.cells) ∧ HdAt w wr sb mb S' (k + 1) vg zq vdx dsx R') (fun _ i _ => S'.all.length - (intOf i).toNat)
                  case atStart => exact ⟨0, zs, _, Nat.zero_le _, rfl, by simp, hown11, h11⟩
                  case round =>
                    obtain ⟨j2, zq, R2, hj2, rfl, hzq, hown12, h12⟩ := hrel
                    by_cases hjl : j2 < S'.all.length
                    · obtain ⟨_, _, e7, _, _, hel7⟩ := (Slc.of_own hown12).1.openE StoredR.cells (fun _ => rfl)
                      injection e7 with e71 e72 e73
                      subst e71 e73
                      obtain ⟨b7, o7, rfl, hb7, hc7⟩ := hel7 j2 hjl
                      have p6 := hc7 6 (by omega)
                      have p6' : wr.cell? ⟨b7, o7 + j2 * 8 + 6, none⟩ = some (.int .i64 (S'.all[j2]).position) := p6
                      rw [h12.has.inv.pos j2 hjl] at p6'
                      have hs12 := has_seen h12.has (by omega) j2
                      obtain ⟨Az, cz, rfl, hz5, hz6⟩ := own_form h12.g
                      have hzs := (Slc.of_own h12.g).1
                      have HP := Lib.hid (fun (W : World) (hW : Only [] wr W) => (hW.cell hb7 (by simp)).trans p6')
                      clear hc7 p6 hel7
                      by_cases qs : S'.seenAt j2 = true
                      · rw [qs] at hs12
                        have HSn := Lib.hid hs12
                        clear hs12 qs hzs
                        go_wp2_with (go_at_call 24; refine HSn.out.mono ?_; rintro e w9 ⟨rfl, ho9⟩)
                        exact ⟨⟨j2 + 1, zq, R2, hjl, by simp, by omega, own_only hown12 ho9 (by simp), h12.keep ho9⟩, by simp [intOf]; omega⟩
                      · have qf : S'.seenAt j2 = false := by simpa using qs
                        rw [qf] at hs12
                        have HSn := Lib.hid hs12
                        clear hs12 qs
                        by_cases qz : zq.length = 0
                        · obtain rfl : zq = [] := List.length_eq_zero_iff.1 qz
                          clear hzs qz
                          go_wp2_with fail
                          refine HSn.out.mono ?_
                          rintro e w9 ⟨rfl, ho9⟩
                          have p9 := HP.out w9 ho9
                          have h13 := h12.keep ho9
                          have hown13 := own_only hown12 ho9 (by simp)
                          clear p6' h12 hown12
                          go_wp2_with (at_builtin; refine wpList_append_lies rfl (.tmp 156) (.tmp 158) 51 rfl w.heap.size 3 i0 (.int .i64 0) 1 8 Try.underlying51 hi hz0 hz1 hz2 rfl (by decide) (.slice Az 0 cz) 0 _ rfl (own_only h13.g ((Only.refl [] w9).alloc _) (by simp)) ⟨w9.heap.size, 0, none⟩ 1 1 [.int .i64 j2] rfl rfl (news_blk (Blk.new w9 3 _)) ?c2 (by decide) ?c3 ?c4 ?c5 ?_)
                          case c2 => simp [Value.oneCell']
                          case c3 => unfold maxLen; omega
                          case c4 => omega
                          case c5 => have := h13.has.only.size; simp; omega
                          intro g5 cap5' w5' hown5' hgrow5 hlie5 hg5
                          have h14 := h13.pushG ((Only.refl [] w9).alloc _) hjl qf hown5' hgrow5 (hlie5.imp id (fun q => by rw [q]; simp)) hg5
                          have hown14 := own_only hown13 (((Only.refl (Value.slice Az 0 cz).ownBlock.toList w9).alloc _).grown hgrow5 (fun i hi => .inl (by simp [hi]))) (fun i hi q => by
                            obtain ⟨c1, hc1⟩ := own_type hown13 hi
                            obtain ⟨c2, hc2⟩ := own_type h13.g (g := i) (by simpa using q)
                            exact hc1.other hc2 (by decide) rfl)
                          clear hgrow5 hlie5 hown5' h13 hown13
                          go_wp2
                          exact ⟨⟨j2 + 1, ([] : List Int) ++ [(j2 : Int)], _, hjl, by simp, by simp; omega, hown14, h14⟩, by simp [intOf]; omega⟩
                        · have qzb : (zq.length == 0) = false := by rw [beq_eq_false_iff_ne]; exact qz
                          go_wp2_with fail
                          refine HSn.out.mono ?_
                          rintro e w9 ⟨rfl, ho9⟩
                          have hin := in_any (hzs.only0 ho9) (by omega) (j2 : Int)
                          have HP9 := Lib.hid (fun (W : World) (hW : Only [] w9 W) => HP.out W (ho9.trans hW))
                          have h13 := h12.keep ho9
                          have hown13 := own_only hown12 ho9 (by simp)
                          clear p6' h12 hown12 HP
                          by_cases qi : isIn zq j2 = true
                          · rw [qi] at hin
                            have HIn := Lib.hid hin
                            clear hin
                            go_wp2_with (go_at_call 25; refine HIn.out.mono ?_; rintro e w10 ⟨rfl, ho10⟩)
                            exact ⟨⟨j2 + 1, zq, R2, hjl, by simp, by omega, own_only hown13 ho10 (by simp), h13.keep ho10⟩, by simp [intOf]; omega⟩
                          · have qif : isIn zq j2 = false := by simpa using qi
                            rw [qif] at hin
                            have HIn := Lib.hid hin
                            clear hin qi
                            go_wp2_with fail
                            refine HIn.out.mono ?_
                            rintro e w10 ⟨rfl, ho10⟩
                            have p9 := HP9.out w10 ho10
                            have h13 := h13.keep ho10
                            have hown13 := own_only hown13 ho10 (by simp)
                            go_wp2_with (at_builtin; refine wpList_append_lies rfl (.tmp 156) (.tmp 158) 51 rfl w.heap.size 3 i0 (.int .i64 0) 1 8 Try.underlying51 hi hz0 hz1 hz2 rfl (by decide) (.slice Az zq.length cz) zq.length _ rfl (own_only h13.g ((Only.refl [] w10).alloc _) (by simp)) ⟨w10.heap.size, 0, none⟩ 1 1 [.int .i64 j2] rfl rfl (news_blk (Blk.new w10 3 _)) ?c2 (by decide) ?c3 ?c4 ?c5 ?_)
                            case c2 => simp [Value.oneCell']
                            case c3 => unfold maxLen; omega
                            case c4 => omega
                            case c5 => have := h13.has.only.size; simp; omega
                            intro g5 cap5' w5' hown5' hgrow5 hlie5 hg5
                            have h14 := h13.pushG ((Only.refl [] w10).alloc _) hjl qf hown5' hgrow5 (hlie5.imp id (fun q => by rw [q]; simp)) hg5
                            have hown14 := own_only hown13 (((Only.refl (Value.slice Az zq.length cz).ownBlock.toList w10).alloc _).grown hgrow5 (fun i hi => .inl (by simp [hi]))) (fun i hi q => by
                              obtain ⟨c1, hc1⟩ := own_type hown13 hi
                              obtain ⟨c2, hc2⟩ := own_type h13.g (g := i) (by simpa using q)
                              exact hc1.other hc2 (by decide) rfl)
                            clear hgrow5 hlie5 hown5' h13 hown13
                            go_wp2
                            exact ⟨⟨j2 + 1, zq ++ [(j2 : Int)], _, hjl, by simp, by simp; omega, hown14, h14⟩, by simp [intOf]; omega⟩
                    · have hje : j2 = S'.all.length := by omega
                      subst hje
                      go_wp2
                      exact ⟨⟨k + 1, S', zq, dsx, R2, by omega, by simp, by omega, hdx, h12⟩, by simp [intOf]; omega⟩
              · have t1b : (x.c.kind == 3) = false := by rw [beq_eq_false_iff_ne]; exact t1
                clear t1 hdno hsd hdel
                have h11 := h10
                have hown11 := hown10
                obtain ⟨dsx, hdsx⟩ : ∃ dsx, dsx = ds := ⟨_, rfl⟩
                obtain ⟨vdx, hvdx⟩ : ∃ vdx, vdx = Value.slice Ad ds.length cd := ⟨_, rfl⟩
                have hdx : dsx.length ≤ k + 1 := by rw [hdsx]; omega
                clear h10 hown10
                go_wp2_with fail
                rw [← hvdx] at h11 ⊢
                rw [← hdsx] at h11
                clear hdsx hvdx
                go_loopw [4, 12] (fun vg i wr => ∃ (j : Nat) (zq : List Int) (R' : List Nat), j ≤ S'.all.length ∧ i = .int .i64 j ∧ zq.length ≤ zs.length + j ∧ wr.ownsRow 0 48 8 (.slice A7 S'.all.length cap7) S'.all.length (S'.all.flatMap StoredR.cells) ∧ HdAt w wr sb mb S' (k + 1) vg zq vdx dsx R') (fun _ i _ => S'.all.length - (intOf i).toNat)
                case atStart => exact ⟨0, zs, _, Nat.zero_le _, rfl, by simp, hown11, h11⟩
                case round =>
                  obtain ⟨j2, zq, R2, hj2, rfl, hzq, hown12, h12⟩ := hrel
                  by_cases hjl : j2 < S'.all.length
                  · obtain ⟨_, _, e7, _, _, hel7⟩ := (Slc.of_own hown12).1.openE StoredR.cells (fun _ => rfl)
                    injection e7 with e71 e72 e73
                    subst e71 e73
                    obtain ⟨b7, o7, rfl, hb7, hc7⟩ := hel7 j2 hjl
                    have p6 := hc7 6 (by omega)
                    have p6' : wr.cell? ⟨b7, o7 + j2 * 8 + 6, none⟩ = some (.int .i64 (S'.all[j2]).position) := p6
                    rw [h12.has.inv.pos j2 hjl] at p6'
                    have hs12 := has_seen h12.has (by omega) j2
                    obtain ⟨Az, cz, rfl, hz5, hz6⟩ := own_form h12.g
                    have hzs := (Slc.of_own h12.g).1
                    have HP := Lib.hid (fun (W : World) (hW : Only [] wr W) => (hW.cell hb7 (by simp)).trans p6')
                    clear hc7 p6 hel7
                    by_cases qs : S'.seenAt j2 = true
                    · rw [qs] at hs12
                      have HSn := Lib.hid hs12
                      clear hs12 qs hzs
                      go_wp2_with (go_at_call 24; refine HSn.out.mono ?_; rintro e w9 ⟨rfl, ho9⟩)
                      exact ⟨⟨j2 + 1, zq, R2, hjl, by simp, by omega, own_only hown12 ho9 (by simp), h12.keep ho9⟩, by simp [intOf]; omega⟩
                    · have qf : S'.seenAt j2 = false := by simpa using qs
                      rw [qf] at hs12
                      have HSn := Lib.hid hs12
                      clear hs12 qs
                      by_cases qz : zq.length = 0
                      · obtain rfl : zq = [] := List.length_eq_zero_iff.1 qz
                        clear hzs qz
                        go_wp2_with fail
                        refine HSn.out.mono ?_
                        rintro e w9 ⟨rfl, ho9⟩
                        have p9 := HP.out w9 ho9
                        have h13 := h12.keep ho9
                        have hown13 := own_only hown12 ho9 (by simp)
                        clear p6' h12 hown12
                        go_wp2_with (at_builtin; refine wpList_append_lies rfl (.tmp 156) (.tmp 158) 51 rfl w.heap.size 3 i0 (.int .i64 0) 1 8 Try.underlying51 hi hz0 hz1 hz2 rfl (by decide) (.slice Az 0 cz) 0 _ rfl (own_only h13.g ((Only.refl [] w9).alloc _) (by simp)) ⟨w9.heap.size, 0, none⟩ 1 1 [.int .i64 j2] rfl rfl (news_blk (Blk.new w9 3 _)) ?c2 (by decide) ?c3 ?c4 ?c5 ?_)
                        case c2 => simp [Value.oneCell']
                        case c3 => unfold maxLen; omega
                        case c4 => omega
                        case c5 => have := h13.has.only.size; simp; omega
                        intro g5 cap5' w5' hown5' hgrow5 hlie5 hg5
                        have h14 := h13.pushG ((Only.refl [] w9).alloc _) hjl qf hown5' hgrow5 (hlie5.imp id (fun q => by rw [q]; simp)) hg5
                        have hown14 := own_only hown13 (((Only.refl (Value.slice Az 0 cz).ownBlock.toList w9).alloc _).grown hgrow5 (fun i hi => .inl (by simp [hi]))) (fun i hi q => by
                          obtain ⟨c1, hc1⟩ := own_type hown13 hi
                          obtain ⟨c2, hc2⟩ := own_type h13.g (g := i) (by simpa using q)
                          exact hc1.other hc2 (by decide) rfl)
                        clear hgrow5 hlie5 hown5' h13 hown13
                        go_wp2
                        exact ⟨⟨j2 + 1, ([] : List Int) ++ [(j2 : Int)], _, hjl, by simp, by simp; omega, hown14, h14⟩, by simp [intOf]; omega⟩
                      · have qzb : (zq.length == 0) = false := by rw [beq_eq_false_iff_ne]; exact qz
                        go_wp2_with fail
                        refine HSn.out.mono ?_
                        rintro e w9 ⟨rfl, ho9⟩
                        have hin := in_any (hzs.only0 ho9) (by omega) (j2 : Int)
                        have HP9 := Lib.hid (fun (W : World) (hW : Only [] w9 W) => HP.out W (ho9.trans hW))
                        have h13 := h12.keep ho9
                        have hown13 := own_only hown12 ho9 (by simp)
                        clear p6' h12 hown12 HP
                        by_cases qi : isIn zq j2 = true
                        · rw [qi] at hin
                          have HIn := Lib.hid hin
                          clear hin
                          go_wp2_with (go_at_call 25; refine HIn.out.mono ?_; rintro e w10 ⟨rfl, ho10⟩)
                          exact ⟨⟨j2 + 1, zq, R2, hjl, by simp, by omega, own_only hown13 ho10 (by simp), h13.keep ho10⟩, by simp [intOf]; omega⟩
                        · have qif : isIn zq j2 = false := by simpa using qi
                          rw [qif] at hin
                          have HIn := Lib.hid hin
                          clear hin qi
                          go_wp2_with fail
                          refine HIn.out.mono ?_
                          rintro e w10 ⟨rfl, ho10⟩
                          have p9 := HP9.out w10 ho10
                          have h13 := h13.keep ho10
                          have hown13 := own_only hown13 ho10 (by simp)
                          go_wp2_with (at_builtin; refine wpList_append_lies rfl (.tmp 156) (.tmp 158) 51 rfl w.heap.size 3 i0 (.int .i64 0) 1 8 Try.underlying51 hi hz0 hz1 hz2 rfl (by decide) (.slice Az zq.length cz) zq.length _ rfl (own_only h13.g ((Only.refl [] w10).alloc _) (by simp)) ⟨w10.heap.size, 0, none⟩ 1 1 [.int .i64 j2] rfl rfl (news_blk (Blk.new w10 3 _)) ?c2 (by decide) ?c3 ?c4 ?c5 ?_)
                          case c2 => simp [Value.oneCell']
                          case c3 => unfold maxLen; omega
                          case c4 => omega
                          case c5 => have := h13.has.only.size; simp; omega
                          intro g5 cap5' w5' hown5' hgrow5 hlie5 hg5
                          have h14 := h13.pushG ((Only.refl [] w10).alloc _) hjl qf hown5' hgrow5 (hlie5.imp id (fun q => by rw [q]; simp)) hg5
                          have hown14 := own_only hown13 (((Only.refl (Value.slice Az zq.length cz).ownBlock.toList w10).alloc _).grown hgrow5 (fun i hi => .inl (by simp [hi]))) (fun i hi q => by
                            obtain ⟨c1, hc1⟩ := own_type hown13 hi
                            obtain ⟨c2, hc2⟩ := own_type h13.g (g := i) (by simpa using q)
                            exact hc1.other hc2 (by decide) rfl)
                          clear hgrow5 hlie5 hown5' h13 hown13
                          go_wp2
                          exact ⟨⟨j2 + 1, zq ++ [(j2 : Int)], _, hjl, by simp, by simp; omega, hown14, h14⟩, by simp [intOf]; omega⟩
                  · have hje : j2 = S'.all.length := by omega
                    subst hje
                    go_wp2
                    exact ⟨⟨k + 1, S', zq, dsx, R2, by omega, by simp, by omega, hdx, h12⟩, by simp [intOf]; omega⟩
    · clear hel
      go_wp2_with (go_at_call 11; refine (alive_any _).mono ?_; rintro e w9 ⟨rfl, ho9⟩)
      go_ret
      exact ⟨rfl, hH.has.only.trans ho9⟩
theorem hidesW (v1 : Value) (l : List CmdV) (W : World)
    (x0 : Slc W 8 v1 l.length (l.flatMap CmdV.cells)) (y0 : ∀ o ∈ l, o.Ok W ∧ o.cells.length = 8) (z0 : ∀ g, v1.ownBlock = some g → g < W.heap.size ∨ l = []) :
    Calls Try.prog 6 #[v1] W fun e W' => e = .returned (.bool true) ∧ Only [] W W' :=
  hides_go W v1 l (CmdsAt.of x0 y0 z0)
end Go.Proofs.Ytefkhkbkengniaa
