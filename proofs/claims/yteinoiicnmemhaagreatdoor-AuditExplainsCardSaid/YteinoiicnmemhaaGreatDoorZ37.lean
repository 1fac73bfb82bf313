/- Proved here: contracts of functions and plain laws, part 37 of one proof. Conditions: each theorem names its own. -/
import Derived.Test.YteinoiicnmemhaaGreatDoorZ15
import Derived.Test.YteinoiicnmemhaaGreatDoorZ35
import Derived.Test.YteinoiicnmemhaaGreatDoorZ36
set_option linter.unusedSimpArgs false
set_option linter.unusedVariables false
namespace Go.Proofs.YteinoiicnmemhaaGreatDoor
section
open Go.RowKit Go Go.Sort
set_option maxRecDepth 100000 in
set_option maxHeartbeats 2000000 in
theorem vread_none (w : World) : Calls Tryz.prog 124 #[.string ⟨#[]⟩] w fun e w' => e = .returned (.tuple #[.agg #[.int .i64 0, .int .i64 (-1)], .int .i64 0]) ∧ Only [] w w' := by
  have HF := Lib.hid (fun (W : World) => J.fall0 W)
  have hbox : ∀ o1, Blk ((w.alloc o1).alloc (.cells #[.int .i64 0, .int .i64 (-1)] 152)) (w.heap.size + 1) 152 #[.int .i64 0, .int .i64 (-1)] := fun o1 => by
    have := Blk.new (w.alloc o1) 152 #[.int .i64 0, .int .i64 (-1)]
    rw [World.size_alloc] at this
    exact this
  go_enter Tryz.func124, Tryz.ntmps124
  go_wp2_with fail
  refine (HF.out _).mono ?_
  rintro e w1 ⟨rfl, ho1⟩
  have hb := fun i => (ho1.blk (hbox _) (by simp)).cell i
  have hr := ho1.blk (((Only.refl [] _).alloc _).blk (Blk.new w 152 #[.int .i64 0, .int .i64 0]) (by simp)) (by simp)
  have hO := (((Only.refl [] w).alloc _).alloc _).trans ho1
  have h0 := fun i => hr.cell i
  have hf := fun i => hr.free i
  go_wp2_with fail
  have hz := fun i => ((hr.set 0 (.int .i64 0)).set 1 (.int .i64 (-1))).cell i
  go_loopw [5, 20] (fun nv iv wr => nv = .int .i64 0 ∧ iv = .int .i64 0 ∧ wr = w1) (fun _ _ _ => 0)
  case atStart => exact ⟨rfl, rfl, rfl⟩
  case round =>
    obtain ⟨rfl, rfl, hwr⟩ := hrel
    have hwr' := hwr.symm
    subst hwr'
    go_wp2_with fail
    refine bodyPost_ret (v := .tuple #[.agg #[.int .i64 0, .int .i64 (-1)], .int .i64 0]) (by simp [results, Tryz.results124, go_sem, hz]) rfl ⟨rfl, ?_⟩
    exact (hO.setCell (p := ⟨w.heap.size, 0, none⟩) (.inr (Nat.le_refl _)) _).setCell (p := ⟨w.heap.size, 1, none⟩) (.inr (Nat.le_refl _)) _
/-! ## a node on a new disk -/
/-- The cells of a node that has no entries. -/
def nodeC (st ld pat : Int) (db : Nat) (id nodes : Int) (lg : Value) (t f : Int) (sb : Nat) : Array Value :=
  #[.int .i64 st, .int .i64 ld, .int .i64 pat, .int .i64 0, .slice none 0 0, .slice none 0 0, .slice none 0 0, .pointer (some ⟨db, 0, none⟩), .int .i64 id, .int .i64 nodes, lg, .slice none 0 0, .int .i64 t, .int .i64 f, .int .i64 0, .pointer (some ⟨sb, 0, none⟩), .slice none 0 0, .int .i64 0, .slice none 0 0]
/-- A new state in memory. -/
structure NewAt (w : World) (sb mb : Nat) : Prop where
  blk : Blk w sb 72 #[.slice none 0 0, .map (some mb), .int .i64 0, .int .i64 0]
  map : MapIs Value.string w mb []
section
variable {a w w' : World} {sb mb nb db kvb : Nat} {S : List Nat} {kv : Value}
theorem NewAt.only (h : NewAt w sb mb) (k : Only S w w') (h1 : sb ∉ S) (h2 : mb ∉ S) : NewAt w' sb mb := ⟨k.blk h.blk h1, h.map.only k h2⟩
theorem NewAt.st (h : NewAt w sb mb) (pf : ByteArray → Value) : StAt w [sb, mb] sb mb (.slice none 0 0) pf MS.new :=
  ⟨h.blk, World.ownsRow_nil _ _ _ _, h.map, fun n x hx => by simp [MS.new] at hx, ⟨by simp, by simp, fun g hg => by cases hg⟩, fun g hg => by
    simp at hg
    rcases hg with rfl | rfl
    · exact h.blk.lt
    · exact h.map.lt⟩
theorem newAt_any (w : World) : Calls Tryz.prog 8 #[] w fun e w' => e = .returned (.pointer (some ⟨w.heap.size + 1, 0, none⟩)) ∧ NewAt w' (w.heap.size + 1) w.heap.size ∧ Only [] w w' :=
  (newS_any w (fun _ => .slice none 0 0)).mono fun e w' ⟨h1, h2, h3⟩ => ⟨h1, ⟨h2.blk, h2.map⟩, h3⟩
set_option maxRecDepth 100000 in
set_option maxHeartbeats 2000000 in
theorem nvoted_new {id nodes : Int} {sb : Nat} (hB : Blk w nb 160 (nodeC 0 0 0 db id nodes (.pointer none) 0 0 sb)) (hD : J.DiskAt w db mb (J.DS.new 0) kv) (hn : nb ≠ db ∧ nb ≠ mb ∧ ∀ g, kv.ownBlock = some g → g ≠ nb) :
    Calls Tryz.prog 89 #[.pointer (some ⟨nb, 0, none⟩)] w fun e w' => e = .returned (.int .i64 0) ∧ Only [nb] w w' ∧ Blk w' nb 160 (nodeC 0 0 0 db id nodes (.pointer none) 0 (-1) sb) := by
  have HV := Lib.hid (fun (W : World) => vread_none W)
  have hsz : (J.DS.new 0).size ⟨#[118, 111, 116, 101]⟩ = (0, 8) := by kernel_rfl
  have HS := Lib.hid (fun (W : World) (h : J.DiskAt W db mb (J.DS.new 0) kv) => show Calls Tryz.prog 125 #[.pointer (some ⟨db, 0, none⟩), .string ⟨#[118, 111, 116, 101]⟩] W fun e w' => e = .returned (.tuple #[.int .i64 0, .int .i64 8]) ∧ Only [] W w' from by
    have := J.size_any h ⟨#[118, 111, 116, 101]⟩
    rw [hsz] at this
    exact this)
  clear hsz
  unfold nodeC at hB ⊢
  go_enter Tryz.func89, Tryz.ntmps89
  go_wp2_with fail
  refine (HV.out _).mono ?_
  rintro e w1 ⟨rfl, ho1⟩
  have hB1 := ho1.blk hB (by simp)
  have hc := fun i => hB1.cell i
  have hf := fun i => hB1.free i
  have hB2 := (hB1.set 12 (.int .i64 0)).set 13 (.int .i64 (-1))
  have hO2 : Only [nb] w ((w1.setCell ⟨nb, 12, none⟩ (.int .i64 0)).setCell ⟨nb, 13, none⟩ (.int .i64 (-1))) := ((ho1.of_nil (S := [nb])).setCell (p := ⟨nb, 12, none⟩) (.inl (by simp)) _).setCell (p := ⟨nb, 13, none⟩) (.inl (by simp)) _
  have HD2 := Lib.hid (hD.only hO2 (by simp; exact fun q => hn.1 q.symm) (by simp; exact fun q => hn.2.1 q.symm) (fun g hg => by simp; exact hn.2.2 g hg))
  go_wp2_with fail
  refine (HS.out _ HD2.out).mono ?_
  rintro e w2 ⟨rfl, ho2⟩
  go_wp2
  go_ret
  exact ⟨rfl, hO2.trans ho2.of_nil, ho2.blk hB2 (by simp)⟩
set_option maxRecDepth 100000 in
theorem ncalm_any {st ld pat : Int} {id nodes : Int} {lg : Value} {t f : Int} {sb : Nat} (hB : Blk w nb 160 (nodeC st ld pat db id nodes lg t f sb)) (hid : 0 ≤ id ∧ id ≤ 7) :
    Calls Tryz.prog 94 #[.pointer (some ⟨nb, 0, none⟩)] w fun e w' => e = .returned (.tuple #[]) ∧ w' = w.setCell ⟨nb, 2, none⟩ (.int .i64 (10 + id)) := by
  unfold nodeC at hB
  have hc := fun i => hB.cell i
  have hf := fun i => hB.free i
  have e9 := IntWalk.i64_in (10 + id) ⟨by omega, by omega⟩
  go_enter Tryz.func94, Tryz.ntmps94
  go_wp2
  go_end0
  exact ⟨rfl, rfl⟩
set_option maxRecDepth 100000 in
set_option maxHeartbeats 4000000 in
theorem nopen_new (hT : J.Tab a) (hO : Only [] a w) (hD : J.DiskAt w db mb (J.DS.new 0) kv) (hu : a.heap.size ≤ db ∧ a.heap.size ≤ mb) (hkv : kv.ownBlock = none) (id nodes : Int) (h0 : 0 ≤ id) (h1 : id < nodes) (h2 : nodes ≤ 7) :
    Calls Tryz.prog 50 #[.pointer (some ⟨db, 0, none⟩), .int .i64 id, .int .i64 nodes] w fun e w' => ∃ nb lb sb smb, e = .returned (.tuple #[.pointer (some ⟨nb, 0, none⟩), .int .i64 0]) ∧ w.heap.size ≤ nb ∧ Blk w' nb 160 (nodeC 1 (-1) (10 + id) db id nodes (.pointer (some ⟨lb, 0, none⟩)) 0 (-1) sb) ∧ NewAt w' sb smb ∧ w.heap.size ≤ sb ∧ w.heap.size ≤ smb ∧ Only [db, mb] w w' := by
  have q1 : decide (nodes < 1) = false := decide_eq_false (by omega)
  have q2 : decide (nodes > 7) = false := decide_eq_false (by omega)
  have q3 : decide (id < 0) = false := decide_eq_false (by omega)
  have q4 : decide (id ≥ nodes) = false := decide_eq_false (by omega)
  have hdl := hD.blk.lt
  have hml := hD.map.lt
  have HN := Lib.hid (fun (W : World) => newAt_any W)
  have HDk := Lib.hid hD
  go_enter Tryz.func50, Tryz.ntmps50
  go_wp2_with fail
  refine (HN.out _).mono ?_
  rintro e w1 ⟨rfl, hs1, ho1⟩
  have hz1 := ho1.size
  have hs1l := hs1.blk.lt
  have hB1 : Blk (w1.alloc (.cells (nodeC 0 0 0 db id nodes (.pointer none) 0 0 (w.heap.size + 1)) 160)) w1.heap.size 160 (nodeC 0 0 0 db id nodes (.pointer none) 0 0 (w.heap.size + 1)) := Blk.new _ _ _
  have k1 : Only [] w1 (w1.alloc (.cells (nodeC 0 0 0 db id nodes (.pointer none) 0 0 (w.heap.size + 1)) 160)) := (Only.refl _ _).alloc _
  have HV := Lib.hid (nvoted_new (mb := mb) hB1 ((HDk.out.only0 ho1).only0 k1) ⟨by omega, by omega, fun g hg => by rw [hkv] at hg; cases hg⟩)
  have ho2 := ho1.trans k1
  have hs2 := hs1.only k1 (by simp) (by simp)
  unfold nodeC at HV hs2 ho2
  clear hB1 k1
  go_wp2_with fail
  refine HV.out.mono ?_
  rintro e w2 ⟨rfl, k2, hB2⟩
  obtain ⟨nb, hnb⟩ : ∃ nb, w1.heap.size = nb := ⟨_, rfl⟩
  obtain ⟨sb, hsb⟩ : ∃ sb, w.heap.size + 1 = sb := ⟨_, rfl⟩
  obtain ⟨smb, hsmb⟩ : ∃ smb, w.heap.size = smb := ⟨_, rfl⟩
  have k02 : Only [nb] w w2 := by rw [← hnb]; exact (ho2.of_nil).trans k2
  have hw2 := k2.size
  have hnl := hB2.lt
  have hD2 := HDk.out.only k02 (by simp; omega) (by simp; omega) (fun g hg => by rw [hkv] at hg; cases hg)
  have hO2 : Only [] a w2 := hO.step k02 (fun i hi => by simp at hi; have := hO.size; exact .inr (by omega))
  have hs3 : NewAt w2 sb smb := by
    rw [← hsb, ← hsmb]
    exact hs2.only k2 (by simp; omega) (by simp; omega)
  have HOp := Lib.hid (J.jopen0 hD2)
  rw [hnb, hsb] at hB2
  rw [hnb, hsb]
  clear hs1 hs2 ho1 ho2 hD HV HDk HN hD2
  go_wp2_with fail
  refine HOp.out.mono ?_
  rintro e w3 ⟨lb, rfl, hlb, hL, k3⟩
  have hB3 := k3.blk hB2 (by simp)
  have hc := fun i => hB3.cell i
  have hf := fun i => hB3.free i
  have hB4 : Blk (w3.setCell ⟨nb, 10, none⟩ (.pointer (some ⟨lb, 0, none⟩))) nb 160 (nodeC 0 0 0 db id nodes (.pointer (some ⟨lb, 0, none⟩)) 0 (-1) sb) := hB3.set 10 (.pointer (some ⟨lb, 0, none⟩))
  have k4 : Only [nb] w3 (w3.setCell ⟨nb, 10, none⟩ (.pointer (some ⟨lb, 0, none⟩))) := (Only.refl _ _).setCell (.inl (by simp)) _
  have hL4 := k4.blk hL (by simp; omega)
  have HLn := Lib.hid (J.jlen0 hL4)
  have HRg := Lib.hid (fun (W : World) (k : Only [] (w3.setCell ⟨nb, 10, none⟩ (.pointer (some ⟨lb, 0, none⟩))) W) => J.jrange0 (k.blk hL4 (by simp)))
  have HB4 := Lib.hid hB4
  have K4 := Lib.hid k4
  clear hL hL4 hB4 k4
  go_wp2_with fail
  refine HLn.out.mono ?_
  rintro e w5 ⟨rfl, k5⟩
  go_wp2_with fail
  refine (HRg.out _ k5).mono ?_
  rintro e w6 ⟨rfl, k6⟩
  have hB6 := k6.blk (k5.blk HB4.out (by simp)) (by simp)
  have k36 : Only [nb] w3 w6 := K4.out.trans ((k5.trans k6).of_nil)
  have r0 : Blk (w6.setCell ⟨nb, 0, none⟩ (.int .i64 1)) nb 160 (nodeC 1 0 0 db id nodes (.pointer (some ⟨lb, 0, none⟩)) 0 (-1) sb) := hB6.set 0 _
  have r1 : Blk ((w6.setCell ⟨nb, 0, none⟩ (.int .i64 1)).setCell ⟨nb, 1, none⟩ (.int .i64 (-1))) nb 160 (nodeC 1 (-1) 0 db id nodes (.pointer (some ⟨lb, 0, none⟩)) 0 (-1) sb) := r0.set 1 _
  have r2 : Blk (((w6.setCell ⟨nb, 0, none⟩ (.int .i64 1)).setCell ⟨nb, 1, none⟩ (.int .i64 (-1))).setCell ⟨nb, 2, none⟩ (.int .i64 0)) nb 160 (nodeC 1 (-1) 0 db id nodes (.pointer (some ⟨lb, 0, none⟩)) 0 (-1) sb) := r1.set 2 _
  have r3 : Blk ((((w6.setCell ⟨nb, 0, none⟩ (.int .i64 1)).setCell ⟨nb, 1, none⟩ (.int .i64 (-1))).setCell ⟨nb, 2, none⟩ (.int .i64 0)).setCell ⟨nb, 3, none⟩ (.int .i64 0)) nb 160 (nodeC 1 (-1) 0 db id nodes (.pointer (some ⟨lb, 0, none⟩)) 0 (-1) sb) := r2.set 3 _
  have r4 : Blk (((((w6.setCell ⟨nb, 0, none⟩ (.int .i64 1)).setCell ⟨nb, 1, none⟩ (.int .i64 (-1))).setCell ⟨nb, 2, none⟩ (.int .i64 0)).setCell ⟨nb, 3, none⟩ (.int .i64 0)).setCell ⟨nb, 4, none⟩ (.slice none 0 0)) nb 160 (nodeC 1 (-1) 0 db id nodes (.pointer (some ⟨lb, 0, none⟩)) 0 (-1) sb) := r3.set 4 _
  have r5 : Blk ((((((w6.setCell ⟨nb, 0, none⟩ (.int .i64 1)).setCell ⟨nb, 1, none⟩ (.int .i64 (-1))).setCell ⟨nb, 2, none⟩ (.int .i64 0)).setCell ⟨nb, 3, none⟩ (.int .i64 0)).setCell ⟨nb, 4, none⟩ (.slice none 0 0)).setCell ⟨nb, 5, none⟩ (.slice none 0 0)) nb 160 (nodeC 1 (-1) 0 db id nodes (.pointer (some ⟨lb, 0, none⟩)) 0 (-1) sb) := r4.set 5 _
  have r6 : Blk (((((((w6.setCell ⟨nb, 0, none⟩ (.int .i64 1)).setCell ⟨nb, 1, none⟩ (.int .i64 (-1))).setCell ⟨nb, 2, none⟩ (.int .i64 0)).setCell ⟨nb, 3, none⟩ (.int .i64 0)).setCell ⟨nb, 4, none⟩ (.slice none 0 0)).setCell ⟨nb, 5, none⟩ (.slice none 0 0)).setCell ⟨nb, 6, none⟩ (.slice none 0 0)) nb 160 (nodeC 1 (-1) 0 db id nodes (.pointer (some ⟨lb, 0, none⟩)) 0 (-1) sb) := r5.set 6 _
  have HB7 := Lib.hid r6
  clear r0 r1 r2 r3 r4 r5 r6
  unfold nodeC at hB6
  have hc6 := fun i => hB6.cell i
  have hf6 := fun i => hB6.free i
  have k7 := fun u0 u1 u2 u3 u4 u5 u6 => ((((((k36.setCell (p := ⟨nb, 0, none⟩) (.inl (by simp)) u0).setCell (p := ⟨nb, 1, none⟩) (.inl (by simp)) u1).setCell (p := ⟨nb, 2, none⟩) (.inl (by simp)) u2).setCell (p := ⟨nb, 3, none⟩) (.inl (by simp)) u3).setCell (p := ⟨nb, 4, none⟩) (.inl (by simp)) u4).setCell (p := ⟨nb, 5, none⟩) (.inl (by simp)) u5).setCell (p := ⟨nb, 6, none⟩) (.inl (by simp)) u6
  have K7 := Lib.hid k7
  clear hc hf k7 hB6 hB3
  go_wp2_with fail
  go_loopw [63] (fun iv wr => iv = .int .i64 0 ∧ wr = w6) (fun _ _ => 0)
  case atStart => exact ⟨rfl, rfl⟩
  case round =>
    obtain ⟨rfl, hwr⟩ := hrel
    have hwr' := hwr.symm
    subst hwr'
    go_wp2_with fail
    refine (ncalm_any HB7.out ⟨h0, by omega⟩).mono ?_
    rintro e w8 ⟨rfl, rfl⟩
    have hF := (K7.out (.int .i64 1) (.int .i64 (-1)) (.int .i64 0) (.int .i64 0) (.slice none 0 0) (.slice none 0 0) (.slice none 0 0)).setCell (p := ⟨nb, 2, none⟩) (.inl (by simp)) (.int .i64 (10 + id))
    have hBF := HB7.out.set 2 (.int .i64 (10 + id))
    have HF := Lib.hid hF
    have HBF := Lib.hid (show Blk _ nb 160 (nodeC 1 (-1) (10 + id) db id nodes (.pointer (some ⟨lb, 0, none⟩)) 0 (-1) sb) from hBF)
    have HS := Lib.hid hs3
    clear hF hBF hc6 hf6 K7 HB7
    go_wp2_with fail
    go_ret2
    refine ⟨nb, lb, sb, smb, rfl, by omega, HBF.out, (HS.out.only k3 (by simp) (by simp)).only HF.out (by simp; omega) (by simp; omega), by omega, by omega, ?_⟩
    exact (((Only.refl [db, mb] w).step k02 (fun i hi => by simp at hi; exact .inr (by omega))).step k3 (fun i hi => by simp at hi)).step HF.out (fun i hi => by simp at hi; exact .inr (by omega))
end
end
end Go.Proofs.YteinoiicnmemhaaGreatDoor
