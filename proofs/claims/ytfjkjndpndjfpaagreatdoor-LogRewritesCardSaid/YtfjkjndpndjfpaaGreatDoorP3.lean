/- Proved here: contracts of functions and plain laws, part 3 of one proof. Conditions: each theorem names its own. -/
import Derived.Test.YtfjkjndpndjfpaaGreatDoorP2
import Derived.Lib.ItoaMem
import Derived.Deep.QuietTactic
import Derived.BigQuiet
import Derived.Lib.QuietBelow
import Derived.BigRegion
import Derived.Lib.LaidTab
import Derived.Lib.ItoaLen
/- Contracts: a chunk is read (chunk.Read). -/
set_option linter.unusedVariables false
set_option linter.unusedSimpArgs false
namespace Go.Proofs.YtfjkjndpndjfpaaGreatDoor
open Go Go.RowKit Go.Sort
theorem app1s {W : World} {base : Nat} {v : Value} {l : List ByteArray} (hown : W.ownsRow base 9 1 v l.length (strs l)) (hb : base ≤ W.heap.size) (hl : l.length ≤ 10000000) (x : ByteArray) :
    ∃ A cap w', (Builtin.append_ #[22, 22] 22 #[v, .slice (some ⟨W.heap.size, 0, none⟩) 1 1]).run Tryz.prog (W.alloc (.cells #[.string x] 9)).drew = .ok (.slice A (l.length + 1) cap) w' ∧ w'.ownsRow base 9 1 (.slice A (l ++ [x]).length cap) (l ++ [x]).length (strs (l ++ [x])) ∧ Only v.ownBlock.toList (W.alloc (.cells #[.string x] 9)).drew w' := by
  have hO : Only [] W (W.alloc (.cells #[.string x] 9)).drew := ((Only.refl [] W).alloc _).drew
  obtain ⟨A, cap, w', h1, h2, h3, _⟩ := run_app (P := Tryz.prog) (w := (W.alloc (.cells #[.string x] 9)).drew) 22 22 base 9 (.string ⟨#[]⟩) 1 16 Tryz.underlying22 infoSJ rfl (by decide) (own_only hown hO (by simp)) ((slc_new1 (w := W) (e := 9) (size := 1) (cs := strs [x]) rfl).only0 ((Only.refl [] _).drew)) (by intro u hu; simp [strs] at hu; subst hu; rfl) (by omega) (by unfold maxLen; omega) (Nat.le_trans hb hO.size)
  refine ⟨A, cap, w', h1, ?_, h3⟩
  have e : strs (l ++ [x]) = strs l ++ strs [x] := by simp [strs]
  rw [List.length_append, e]
  exact h2
/-- A chunk that is being read, in memory. -/
structure RdAt (w wr : World) (g : Nat) (x : ScanR) (A : Option Addr) (cap : Nat) : Prop where
  only : Only [] w wr
  zero : Blk wr w.heap.size 92 #[.int .i64 0, .int .i64 0, .slice none 0 0, .int .i64 0, .bool false]
  lt : w.heap.size < g
  st : Blk wr g 92 #[.int .i64 x.number, .int .i64 x.size, .slice A x.bodies.length cap, .int .i64 x.good, .bool x.done]
  own : wr.ownsRow w.heap.size 9 1 (.slice A x.bodies.length cap) x.bodies.length (strs x.bodies)
theorem RdAt.keep {w wr w' : World} {g : Nat} {x : ScanR} {A : Option Addr} {cap : Nat} (h : RdAt w wr g x A cap) (k : Only [] wr w') : RdAt w w' g x A cap :=
  ⟨h.only.trans k, k.blk h.zero (by simp), h.lt, k.blk h.st (by simp), own_only h.own k (by simp)⟩
theorem RdAt.apart {w wr : World} {g : Nat} {x : ScanR} {A : Option Addr} {cap : Nat} (h : RdAt w wr g x A cap) : ∀ q, (Value.slice A x.bodies.length cap).ownBlock = some q → q ≠ w.heap.size ∧ q ≠ g := by
  intro q hq
  obtain ⟨cur, hcur⟩ := own_type h.own hq
  exact ⟨fun e => by subst e; exact (h.zero.other hcur (by decide)) rfl, fun e => by subst e; exact (h.st.other hcur (by decide)) rfl⟩
/-- What Read answers. -/
def ReadOut (w w' : World) (e : Ending) (x : ScanR) : Prop :=
  ∃ v, e = .returned (.tuple #[scanV v x, .int .i64 0]) ∧ w'.ownsRow w.heap.size 9 1 v x.bodies.length (strs x.bodies) ∧ Only [] w w'
theorem RdAt.fin {w wr : World} {g : Nat} {x : ScanR} {A : Option Addr} {cap : Nat} (h : RdAt w wr g x A cap) (a b c d e : Value) :
    ((((((wr.setCell ⟨w.heap.size, 0, none⟩ a).setCell ⟨w.heap.size, 1, none⟩ b).setCell ⟨w.heap.size, 2, none⟩ c).setCell ⟨w.heap.size, 3, none⟩ d).setCell ⟨w.heap.size, 4, none⟩ e)).ownsRow w.heap.size 9 1 (.slice A x.bodies.length cap) x.bodies.length (strs x.bodies) ∧
    Only [] w ((((((wr.setCell ⟨w.heap.size, 0, none⟩ a).setCell ⟨w.heap.size, 1, none⟩ b).setCell ⟨w.heap.size, 2, none⟩ c).setCell ⟨w.heap.size, 3, none⟩ d).setCell ⟨w.heap.size, 4, none⟩ e)) := by
  have k1 : Only [w.heap.size] wr ((((((wr.setCell ⟨w.heap.size, 0, none⟩ a).setCell ⟨w.heap.size, 1, none⟩ b).setCell ⟨w.heap.size, 2, none⟩ c).setCell ⟨w.heap.size, 3, none⟩ d).setCell ⟨w.heap.size, 4, none⟩ e)) := by
    iterate 5 (refine Only.setCell ?_ (.inl (by simp)) _)
    exact Only.refl _ _
  refine ⟨own_only h.own k1 (fun q hq hm => (h.apart q hq).1 (by simpa using hm)), ?_⟩
  iterate 5 (refine Only.setCell ?_ (.inr (Nat.le_refl _)) _)
  exact h.only
theorem RdAt.sets {w wr : World} {g : Nat} {x : ScanR} {A : Option Addr} {cap : Nat} (h : RdAt w wr g x A cap) (n : Nat) :
    RdAt w ((wr.setCell ⟨g, 4, none⟩ (.bool true)).setCell ⟨g, 3, none⟩ (.int .i64 ((x.good : Int) + (n : Int)))) g { x with done := true, good := x.good + n } A cap := by
  have e2 : (x.good : Int) + (n : Int) = ((x.good + n : Nat) : Int) := by omega
  rw [e2]
  have hge : w.heap.size ≤ g := Nat.le_of_lt h.lt
  have k1 : Only [g] wr ((wr.setCell ⟨g, 4, none⟩ (.bool true)).setCell ⟨g, 3, none⟩ (.int .i64 ((x.good + n : Nat) : Int))) := by
    iterate 2 (refine Only.setCell ?_ (.inl (by simp)) _)
    exact Only.refl _ _
  have hne : w.heap.size ∉ [g] := by have := h.lt; simp; omega
  refine ⟨?_, k1.blk h.zero hne, h.lt, (h.st.set 4 (.bool true)).set 3 (.int .i64 ((x.good + n : Nat) : Int)), own_only h.own k1 (fun q hq hm => (h.apart q hq).2 (by simpa using hm))⟩
  iterate 2 (refine Only.setCell ?_ (.inr hge) _)
  exact h.only
theorem RdAt.app {w wr : World} {g : Nat} {x : ScanR} {A : Option Addr} {cap : Nat} (h : RdAt w wr g x A cap) (hl : x.bodies.length ≤ 10000000) (s : ByteArray) (n : Nat) :
    ∃ A4 c4 w4, (Builtin.append_ #[22, 22] 22 #[.slice A x.bodies.length cap, .slice (some ⟨wr.heap.size, 0, none⟩) 1 1]).run Tryz.prog (wr.alloc (.cells #[.string s] 9)).drew = .ok (.slice A4 (x.bodies.length + 1) c4) w4 ∧
      Only (Value.slice A x.bodies.length cap).ownBlock.toList wr w4 ∧ (∀ i, w4.frozen? ⟨g, i, none⟩ = false) ∧
      (∀ i, w4.cell? ⟨g, i, none⟩ = #[.int .i64 x.number, .int .i64 x.size, .slice A x.bodies.length cap, .int .i64 x.good, .bool x.done][i]?) ∧
      RdAt w ((w4.setCell ⟨g, 2, none⟩ (.slice A4 (x.bodies.length + 1) c4)).setCell ⟨g, 3, none⟩ (.int .i64 ((x.good : Int) + (n : Int)))) g { x with bodies := x.bodies ++ [s], good := x.good + n } A4 c4 := by
  have e2 : (x.good : Int) + (n : Int) = ((x.good + n : Nat) : Int) := by omega
  rw [e2]
  obtain ⟨A4, c4, w4, h1, h2, h3⟩ := app1s h.own h.only.size hl s
  have hge : w.heap.size ≤ g := Nat.le_of_lt h.lt
  have hno1 : w.heap.size ∉ (Value.slice A x.bodies.length cap).ownBlock.toList := fun q => (h.apart _ (by simpa using q)).1 rfl
  have hno2 : g ∉ (Value.slice A x.bodies.length cap).ownBlock.toList := fun q => (h.apart _ (by simpa using q)).2 rfl
  have hO3 : ∀ S, Only S wr (wr.alloc (.cells #[.string s] 9)).drew := fun S => ((Only.refl S wr).alloc _).drew
  have hz := h3.blk ((hO3 _).blk h.zero hno1) hno1
  have hs := h3.blk ((hO3 _).blk h.st hno2) hno2
  have hon : Only [] w w4 := (h.only.trans (hO3 [])).step h3 (fun q hq => .inr (World.ownsRow.lt h.own q (by simpa using hq)).1)
  have hn2 : ∀ q, (Value.slice A4 (x.bodies ++ [s]).length c4).ownBlock = some q → q ≠ g := fun q hq e => by
    subst e
    obtain ⟨cur, hcur⟩ := own_type h2 hq
    exact (hs.other hcur (by decide)) rfl
  have hL : (x.bodies ++ [s]).length = x.bodies.length + 1 := by simp
  have hset := (hs.set 2 (.slice A4 (x.bodies.length + 1) c4)).set 3 (.int .i64 ((x.good + n : Nat) : Int))
  have k1 : Only [g] w4 ((w4.setCell ⟨g, 2, none⟩ (.slice A4 (x.bodies.length + 1) c4)).setCell ⟨g, 3, none⟩ (.int .i64 ((x.good + n : Nat) : Int))) := by
    iterate 2 (refine Only.setCell ?_ (.inl (by simp)) _)
    exact Only.refl _ _
  have hne : w.heap.size ∉ [g] := by have := h.lt; simp; omega
  refine ⟨A4, c4, w4, h1, (hO3 _).trans h3, hs.free, hs.cell, ?_, k1.blk hz hne, h.lt, ?_, own_only h2 k1 (fun q hq hm => hn2 q hq (by simpa using hm))⟩
  · iterate 2 (refine Only.setCell ?_ (.inr hge) _)
    exact hon
  · dsimp only
    rw [hL]
    exact hset
theorem firstF_pos {l : List UInt8} (h : (firstF l).2.2 = 0) : 12 ≤ (firstF l).2.1 := by
  unfold firstF at h ⊢
  split
  · rename_i q; rw [if_pos q] at h; simp at h
  rename_i q1; rw [if_neg q1] at h
  split
  · rename_i q; rw [if_pos q] at h; simp at h
  rename_i q2; rw [if_neg q2] at h
  split
  · rename_i q; rw [if_pos q] at h; simp at h
  rename_i q3; rw [if_neg q3] at h
  split
  · rename_i q; rw [if_pos q] at h; simp at h
  rename_i q4; rw [if_neg q4] at h
  split
  · rename_i q; rw [if_pos q] at h; simp at h
  · dsimp only; omega
theorem ext_drop (b : ByteArray) (i : Nat) : (b.extract i b.size).data.toList = b.data.toList.drop i := by
  have h : b.data.toList.length = b.size := by simp
  simp [List.drop_take]
  exact List.take_of_length_le (by simp)
theorem ext_mid (b : ByteArray) (i n : Nat) : (b.extract i (i + n)).data.toList = (b.data.toList.drop i).take n := by
  simp [List.drop_take]
set_option maxRecDepth 100000 in
set_option maxHeartbeats 4000000 in
theorem cread_any {w : World} (b : ByteArray) (hb : b.size ≤ 1000000) {R : ScanR} (hr : readC b.data.toList = some R) : Calls Tryz.prog 63 #[.string b] w fun e w' => ReadOut w w' e R := by
  have hbl : b.data.toList.length = b.size := by simp
  unfold readC at hr
  obtain ⟨o, ho⟩ : ∃ o, beginC b.data.toList = o := ⟨_, rfl⟩
  have hB := fun W => begin_any (w := W) b hb
  rw [ho] at hr hB
  obtain ⟨x0, rfl⟩ : ∃ x, o = some x := by
    cases o with
    | none => cases hr
    | some x => exact ⟨x, rfl⟩
  have hr1 : scanC b.data.toList (b.size + 1) x0 = R := by
    rw [hbl] at hr
    exact Option.some.inj hr
  have hx0 : x0.bodies = [] ∧ x0.good ≤ b.size ∧ x0.done = false := by
    unfold beginC at ho
    split at ho
    · cases ho
    · dsimp only at ho
      split at ho
      · cases ho
      · cases ho
        refine ⟨rfl, ?_, rfl⟩
        have := readF_n (b := b) rfl
        rw [readF_first] at this
        exact this
  obtain ⟨hx1, hx2, hx3⟩ := hx0
  have hB1 : ∀ W, Calls Tryz.prog 91 #[.string b] W fun e w' => e = .returned (.tuple #[.agg #[.int .i64 x0.number, .int .i64 x0.size, .slice none 0 0, .int .i64 x0.good, .bool x0.done], .bool true]) ∧ Only [] W w' := hB
  have HB := Lib.hid hB1
  have HR := Lib.hid hr1
  have HZ := Lib.hid (Blk.new w 92 #[.int .i64 0, .int .i64 0, .slice none 0 0, .int .i64 0, .bool false])
  clear hr hB ho hx3 hr1 hB1
  go_enter Tryz.func63, Tryz.ntmps63
  go_wp2_with (go_at_call 91; refine (HB.out _).mono ?_; rintro e1 w1 ⟨rfl, k1⟩; have hz := Lib.hid (k1.blk HZ.out (by simp)))
  go_loopw [6] (fun _ wr => ∃ (x : ScanR) (A : Option Addr) (cap f : Nat), RdAt w wr w1.heap.size x A cap ∧ x.good ≤ b.size ∧ x.bodies.length ≤ x.good ∧ Hid (scanC b.data.toList f x = R) ∧ b.size - x.good < f) (fun _ wr => b.size + 1 - (match wr.cell? ⟨w1.heap.size, 3, none⟩ with | some v => intOf v | none => 0).toNat)
  case atStart =>
    refine ⟨x0, none, 0, b.size + 1, ⟨(((Only.refl [] w).alloc _).trans k1).alloc _, (((Only.refl [] w1).alloc _).blk hz.out (by simp)), hz.out.lt, ?_, ?_⟩, hx2, by rw [hx1]; simp, HR, by omega⟩
    · rw [hx1]; exact Blk.new _ _ _
    · rw [hx1]; exact ⟨rfl, .inl ⟨rfl, rfl⟩⟩
  case round =>
    obtain ⟨x, A, cap, f, hA, hg, hbg, hf, hfu⟩ := hrel
    have hzf := hA.zero.free
    have hzc := hA.zero.cell
    have c0 := hA.st.cell 0
    have c1 := hA.st.cell 1
    have c2 := hA.st.cell 2
    have c3 := hA.st.cell 3
    have c4 := hA.st.cell 4
    have hlt := hA.lt
    cases hd : x.done with
    | true =>
      rw [hd] at c4
      have hxR : x = R := by
        have := hf.out
        rw [scan_done f x hd] at this
        exact this
      have HA := Lib.hid hA
      clear hA hf
      subst hxR
      go_wp2
      refine bodyPost_ret (v := .tuple #[.agg #[.int .i64 x.number, .int .i64 x.size, .slice A x.bodies.length cap, .int .i64 x.good, .bool true], .int .i64 0]) (by simp [results, Tryz.results63, go_sem, hzc]) rfl ⟨.slice A x.bodies.length cap, by unfold scanV; rw [hd], (HA.out.fin _ _ _ _ _).1, (HA.out.fin _ _ _ _ _).2⟩
    | false =>
      rw [hd] at c4
      obtain ⟨f, rfl⟩ : ∃ f', f = f' + 1 := ⟨f - 1, by omega⟩
      have hs := hf.out
      rw [scanC, if_neg (by rw [hd]; simp)] at hs
      have hF := fun W => ffirst_any (w := W) (b.extract x.good b.size) (by rw [ByteArray.size_extract]; omega)
      have hnb : (firstF (b.data.toList.drop x.good)).2.1 ≤ b.size - x.good := by
        have := readF_n (b := b.extract x.good b.size) rfl
        rw [readF_first, ext_drop, ByteArray.size_extract] at this
        dsimp only at this
        omega
      have hps := firstF_pos (l := b.data.toList.drop x.good)
      rw [readF_first, ext_drop] at hF
      obtain ⟨⟨B, n, e⟩, hff⟩ : ∃ q, firstF (b.data.toList.drop x.good) = q := ⟨_, rfl⟩
      rw [hff] at hs hF hnb hps
      dsimp only at hs hF hnb hps
      have hBs : (baL B).size = B.length := baL_size B
      obtain ⟨B', hB'⟩ : ∃ B', baL B = B' := ⟨_, rfl⟩
      rw [hB'] at hF hBs
      have HF := Lib.hid hF
      clear hF hff hf c0 c1 c2 c3 c4 hzf hzc
      have c3 := hA.st.cell 3
      have c4 := hA.st.cell 4
      rw [hd] at c4
      by_cases he : e = 0
      · subst he
        have hps := hps rfl
        by_cases hBe : B = []
        · rw [if_pos (.inr hBe)] at hs
          have hE : B'.toList.isEmpty = true := by rw [← hB', hBe, ByteArray.toList_eq]; rfl
          clear hB' hBs hBe
          subst hs
          go_wp2_with (go_at_call 92; refine (HF.out _).mono ?_; rintro e2 w2 ⟨rfl, k2⟩; have hA2 := hA.keep k2; have HA := Lib.hid hA2; have hzf := hA2.zero.free; have hzc := hA2.zero.cell; have c0 := hA2.st.cell 0; have c1 := hA2.st.cell 1; have c2 := hA2.st.cell 2; have c3 := hA2.st.cell 3; have c4 := hA2.st.cell 4; rw [hd] at c4; clear hA hA2)
          refine bodyPost_ret (v := .tuple #[.agg #[.int .i64 x.number, .int .i64 x.size, .slice A x.bodies.length cap, .int .i64 x.good, .bool false], .int .i64 0]) (by simp [results, Tryz.results63, go_sem, hzc]) rfl ⟨.slice A x.bodies.length cap, by unfold scanV; rw [hd], (HA.out.fin _ _ _ _ _).1, (HA.out.fin _ _ _ _ _).2⟩
        · rw [if_neg (by simp [hBe])] at hs
          have hBl : 1 ≤ B.length := by cases B with | nil => exact absurd rfl hBe | cons a l => simp
          have hE : B'.toList.isEmpty = false := by
            rw [← hB', ByteArray.toList_eq, bts_baL]
            cases B with
            | nil => exact absurd rfl hBe
            | cons a l => rfl
          have hFi := fun W => finish_any (w := W) x.number (x.bodies.length : Int)
          obtain ⟨⟨fi, fe⟩, hfi⟩ : ∃ q, finE x.number (x.bodies.length : Int) = q := ⟨_, rfl⟩
          rw [hfi] at hs hFi
          dsimp only at hs hFi
          have HFi := Lib.hid hFi
          have hdec := toList_decJ (B'.extract 0 1) ⟨#[1]⟩
          have hcm : B'.extract 0 1 = ⟨#[1]⟩ ↔ B.take 1 = [1] := by
            rw [← hB']
            constructor
            · intro h
              have := congrArg (fun x : ByteArray => x.data.toList) h
              try dsimp only at this
              rw [ext_list, bts_baL] at this
              exact this
            · intro h
              exact bts_inj (by rw [ext_list, bts_baL]; exact h)
          have hdec2 := toList_decJ (baL fi) (b.extract x.good (x.good + n))
          have hcm2 : baL fi = b.extract x.good (x.good + n) ↔ fi = (b.data.toList.drop x.good).take n := by
            constructor
            · intro h
              have := congrArg (fun x : ByteArray => x.data.toList) h
              try dsimp only at this
              rw [ext_mid, bts_baL] at this
              exact this
            · intro h
              exact bts_inj (by rw [ext_mid, bts_baL]; exact h)
          have e1 := IntWalk.i64_in ((x.good : Int) + (n : Int)) ⟨by omega, by omega⟩
          have e3 : ((x.good : Int) + (n : Int)).toNat = x.good + n := by omega
          have q1 : wr.cell? ⟨w1.heap.size, 3, none⟩ = some (.int .i64 x.good) := hA.st.cell 3
          have Q1 := Lib.hid q1
          clear q1
          have hdec3 : ((B'.extract 0 1).toList == [1]) = decide (B'.extract 0 1 = ⟨#[1]⟩) := by rw [← hdec, ByteArray.toList_eq ⟨#[1]⟩]
          have hdr : baL (B.drop 1) = B'.extract 1 B'.size := bts_inj (by rw [ext_drop, bts_baL, ← hB', bts_baL])
          have hB1 : 1 ≤ B'.size := by omega
          clear hFi hfi hB' hBe hBl hBs HB HZ k1 hz HR hx1 hx2 hbl
          by_cases hq : B.take 1 = [1]
          · rw [if_pos hq, hdr] at hs
            rw [decide_eq_true (hcm.2 hq)] at hdec hdec3
            have HS := Lib.hid hs
            clear hs hq hcm hdec2 hcm2 hdr
            go_wp2_with (first
            | (go_at_call 92; refine (HF.out _).mono ?_; rintro e2 w2 ⟨rfl, k2⟩; have hA2 := hA.keep k2; have HA := Lib.hid hA2; have c0 := hA2.st.cell 0; have c2 := hA2.st.cell 2; have c3 := hA2.st.cell 3; clear hA hA2)
            | (go_at_call 85; refine (HFi.out _).mono ?_; rintro e3 w3 ⟨rfl, k3⟩; have hA3 := HA.out.keep k3; clear HA c0 c2 c3; have HA := Lib.hid hA3; have hzf := hA3.zero.free; have hzc := hA3.zero.cell; have hsf := hA3.st.free; have c0 := hA3.st.cell 0; have c1 := hA3.st.cell 1; have c2 := hA3.st.cell 2; have c3 := hA3.st.cell 3; have c4 := hA3.st.cell 4; rw [hd] at c4; clear hA3))
            obtain ⟨A4, c5, w4, hr4, hO4, hf4, hc4, hRd⟩ := HA.out.app (by omega) (B'.extract 1 B'.size) n
            obtain ⟨So, hSo⟩ : ∃ So, So = (Value.slice A x.bodies.length cap).ownBlock.toList := ⟨_, rfl⟩
            rw [← hSo] at hO4
            have hno : w1.heap.size ∉ So := fun q => by
              rw [hSo] at q
              exact (HA.out.apart _ (by simpa using q)).2 rfl
            have k0 := Within.cell (S := So) c2 hno
            have HR4 := Lib.hid hr4
            have HRd := Lib.hid hRd
            have HO4 := Lib.hid hO4
            have hO3 : Only So w3 (w3.alloc (.cells #[.string (B'.extract 1 B'.size)] 9)).drew := ((Only.refl So w3).alloc _).drew
            rw [hd] at hc4
            clear hr4 hRd hO4 hzf hzc hsf c0 c1 c2 c3 c4
            refine wp_region_in So [0, 1, 2, 3] [4, 5] [6, 7] (by kernel_rfl) (by kernel_rfl) (by intro c d u a w h; cases d <;> exact h) ?_
            show wpQuiet _ _ _ _ [_, _, _, _] _
            repeat (go_big_quiet_step (fail))
            refine wpQuiet_nil ?_
            clear k0
            show wpList _ _ _ [_] _ _
            go_wp2_with fail
            refine check_of (S := So) hO3 ?_
            show wpList _ _ _ [_] _ _
            go_wp2_with (at_builtin; refine Lib.wpList_append_run _ rfl (.tmp 53) (.tmp 56) 22 22 rfl _ _ rfl rfl _ _ HR4.out ?_)
            refine check_of (S := So) HO4.out ?_
            show wpList _ _ _ [_, _] _ _
            go_wp2
            have q2 : ((w4.setCell ⟨w1.heap.size, 2, none⟩ (.slice A4 (x.bodies.length + 1) c5)).setCell ⟨w1.heap.size, 3, none⟩ (.int .i64 ((x.good : Int) + (n : Int)))).cell? ⟨w1.heap.size, 3, none⟩ = some (.int .i64 ((x.good + n : Nat) : Int)) := HRd.out.st.cell 3
            exact ⟨⟨_, A4, c5, f, HRd.out, by dsimp only; omega, by dsimp only; simp; omega, HS, by dsimp only; omega⟩, by rw [Q1.out, q2]; simp only [intOf]; omega⟩
          · rw [if_neg hq] at hs
            rw [decide_eq_false (fun h => hq (hcm.1 h))] at hdec hdec3
            by_cases hq2 : fi = (b.data.toList.drop x.good).take n
            · rw [if_pos hq2] at hs
              rw [decide_eq_true (hcm2.2 hq2)] at hdec2
              have HS := Lib.hid hs
              clear hs hq hcm hq2 hcm2 hdr
              go_wp2_with (first
            | (go_at_call 92; refine (HF.out _).mono ?_; rintro e2 w2 ⟨rfl, k2⟩; have hA2 := hA.keep k2; have HA := Lib.hid hA2; have c0 := hA2.st.cell 0; have c2 := hA2.st.cell 2; have c3 := hA2.st.cell 3; clear hA hA2)
            | (go_at_call 85; refine (HFi.out _).mono ?_; rintro e3 w3 ⟨rfl, k3⟩; have hA3 := HA.out.keep k3; clear HA c0 c2 c3; have HA := Lib.hid hA3; have hzf := hA3.zero.free; have hzc := hA3.zero.cell; have hsf := hA3.st.free; have c0 := hA3.st.cell 0; have c1 := hA3.st.cell 1; have c2 := hA3.st.cell 2; have c3 := hA3.st.cell 3; have c4 := hA3.st.cell 4; rw [hd] at c4; clear hA3))
              have hRd := HA.out.sets n
              have q2 : ((w3.setCell ⟨w1.heap.size, 4, none⟩ (.bool true)).setCell ⟨w1.heap.size, 3, none⟩ (.int .i64 ((x.good : Int) + (n : Int)))).cell? ⟨w1.heap.size, 3, none⟩ = some (.int .i64 ((x.good + n : Nat) : Int)) := hRd.st.cell 3
              exact ⟨⟨_, A, cap, f, hRd, by dsimp only; omega, by dsimp only; omega, HS, by dsimp only; omega⟩, by rw [Q1.out, q2]; simp only [intOf]; omega⟩
            · rw [if_neg hq2] at hs
              rw [decide_eq_false (fun h => hq2 (hcm2.1 h))] at hdec2
              clear hq hcm hq2 hcm2 hdr
              subst hs
              go_wp2_with (first
            | (go_at_call 92; refine (HF.out _).mono ?_; rintro e2 w2 ⟨rfl, k2⟩; have hA2 := hA.keep k2; have HA := Lib.hid hA2; have c0 := hA2.st.cell 0; have c2 := hA2.st.cell 2; have c3 := hA2.st.cell 3; clear hA hA2)
            | (go_at_call 85; refine (HFi.out _).mono ?_; rintro e3 w3 ⟨rfl, k3⟩; have hA3 := HA.out.keep k3; clear HA c0 c2 c3; have HA := Lib.hid hA3; have hzf := hA3.zero.free; have hzc := hA3.zero.cell; have hsf := hA3.st.free; have c0 := hA3.st.cell 0; have c1 := hA3.st.cell 1; have c2 := hA3.st.cell 2; have c3 := hA3.st.cell 3; have c4 := hA3.st.cell 4; rw [hd] at c4; clear hA3))
              refine bodyPost_ret (v := .tuple #[.agg #[.int .i64 x.number, .int .i64 x.size, .slice A x.bodies.length cap, .int .i64 x.good, .bool false], .int .i64 0]) (by simp [results, Tryz.results63, go_sem, hzc]) rfl ⟨.slice A x.bodies.length cap, by unfold scanV; rw [hd], (HA.out.fin _ _ _ _ _).1, (HA.out.fin _ _ _ _ _).2⟩
      · rw [if_pos (.inl he)] at hs
        clear hB' hBs
        subst hs
        go_wp2_with (go_at_call 92; refine (HF.out _).mono ?_; rintro e2 w2 ⟨rfl, k2⟩; have hA2 := hA.keep k2; have HA := Lib.hid hA2; have hzf := hA2.zero.free; have hzc := hA2.zero.cell; have c0 := hA2.st.cell 0; have c1 := hA2.st.cell 1; have c2 := hA2.st.cell 2; have c3 := hA2.st.cell 3; have c4 := hA2.st.cell 4; rw [hd] at c4; clear hA hA2)
        refine bodyPost_ret (v := .tuple #[.agg #[.int .i64 x.number, .int .i64 x.size, .slice A x.bodies.length cap, .int .i64 x.good, .bool false], .int .i64 0]) (by simp [results, Tryz.results63, go_sem, hzc]) rfl ⟨.slice A x.bodies.length cap, by unfold scanV; rw [hd], (HA.out.fin _ _ _ _ _).1, (HA.out.fin _ _ _ _ _).2⟩
end Go.Proofs.YtfjkjndpndjfpaaGreatDoor
/- Contracts: what is no chunk is not read; a log's small calls (bytes, Synced, Broken, may, told). -/
set_option linter.unusedVariables false
set_option linter.unusedSimpArgs false
namespace Go.Proofs.YtfjkjndpndjfpaaGreatDoor
open Go Go.RowKit Go.Sort
set_option maxRecDepth 100000 in
set_option maxHeartbeats 1000000 in
theorem read_no {w : World} (b : ByteArray) (hb : b.size ≤ 1000000) (hr : readC b.data.toList = none) : Calls Tryz.prog 63 #[.string b] w fun e w' => e = .returned (.tuple #[scanV (.slice none 0 0) .zero, .int .i64 6]) ∧ Only [] w w' := by
  unfold readC at hr
  have hB := fun W => begin_any (w := W) b hb
  rw [Option.map_eq_none_iff.1 hr] at hB
  have hB1 : ∀ W, Calls Tryz.prog 91 #[.string b] W fun e w' => e = .returned (.tuple #[.agg #[.int .i64 0, .int .i64 0, .slice none 0 0, .int .i64 0, .bool false], .bool false]) ∧ Only [] W w' := hB
  have HB := Lib.hid hB1
  have HZ := Lib.hid (Blk.new w 92 #[.int .i64 0, .int .i64 0, .slice none 0 0, .int .i64 0, .bool false])
  clear hB hB1 hr
  go_enter Tryz.func63, Tryz.ntmps63
  go_wp2_with (go_at_call 91; refine (HB.out _).mono ?_; rintro e1 w1 ⟨rfl, k1⟩; have hz := ((Only.refl [] w1).alloc (.cells #[.int .i64 0, .int .i64 0, .slice none 0 0, .int .i64 0, .bool false] 92)).blk (k1.blk HZ.out (by simp)) (by simp); have hf := hz.free; have hc := hz.cell; have hz := Lib.hid hz)
  refine bodyPost_ret (v := .tuple #[.agg #[.int .i64 0, .int .i64 0, .slice none 0 0, .int .i64 0, .bool false], .int .i64 6]) (by simp [results, Tryz.results63, go_sem, hc]) rfl ⟨rfl, ?_⟩
  iterate 5 (refine Only.setCell ?_ (.inr (Nat.le_refl _)) _)
  exact (((Only.refl [] w).alloc _).trans k1).alloc _
theorem jbytes_any {w : World} (b : ByteArray) (hb : b.size ≤ 1000000000) : Calls Tryz.prog 53 #[.string b] w fun e w' => e = .returned (.int .i64 ((b.size : Int) + 13)) ∧ w' = w := by
  have e1 := IntWalk.i64_in ((b.size : Int) + 12) ⟨by omega, by omega⟩
  have e2 := IntWalk.i64_in ((b.size : Int) + 12 + 1) ⟨by omega, by omega⟩
  have e3 : (b.size : Int) + 13 = (b.size : Int) + 12 + 1 := by omega
  rw [e3]
  clear e3
  go_enter Tryz.func53, Tryz.ntmps53
  go_wp2
  go_ret
  exact ⟨rfl, rfl⟩
section
variable {w : World} {lb db : Nat} {pre : ByteArray} {size syn mark err : Int} {pv : Value}
theorem jsynced_any (h : Blk w lb 50 #[.pointer (some ⟨db, 0, none⟩), .string pre, .int .i64 size, pv, .int .i64 syn, .int .i64 mark, .int .i64 err]) :
    Calls Tryz.prog 29 #[.pointer (some ⟨lb, 0, none⟩)] w fun e w' => e = .returned (.int .i64 syn) ∧ w' = w := by
  have c4 := h.cell 4
  clear h
  go_enter Tryz.func29, Tryz.ntmps29
  go_wp2
  go_ret
  exact ⟨rfl, rfl⟩
theorem jsynced_nil : Calls Tryz.prog 29 #[.pointer none] w fun e w' => e = .returned (.int .i64 0) ∧ w' = w := by
  go_enter Tryz.func29, Tryz.ntmps29
  go_wp2
  go_ret
  exact ⟨rfl, rfl⟩
theorem jmay_any (h : Blk w lb 50 #[.pointer (some ⟨db, 0, none⟩), .string pre, .int .i64 size, pv, .int .i64 syn, .int .i64 mark, .int .i64 err]) :
    Calls Tryz.prog 37 #[.pointer (some ⟨lb, 0, none⟩)] w fun e w' => e = .returned (.int .i64 err) ∧ w' = w := by
  have c0 := h.cell 0
  have c6 := h.cell 6
  clear h
  go_enter Tryz.func37, Tryz.ntmps37
  go_wp2
  go_ret
  exact ⟨rfl, rfl⟩
theorem jmay_nil : Calls Tryz.prog 37 #[.pointer none] w fun e w' => e = .returned (.int .i64 1) ∧ w' = w := by
  go_enter Tryz.func37, Tryz.ntmps37
  go_wp2
  go_ret
  exact ⟨rfl, rfl⟩
theorem jtold_quiet (e : Int) (he : e = 0 ∨ e = 20) :
    Calls Tryz.prog 44 #[.pointer (some ⟨lb, 0, none⟩), .int .i64 e] w fun x w' => x = .returned (.int .i64 e) ∧ w' = w := by
  rcases he with rfl | rfl
  · go_enter Tryz.func44, Tryz.ntmps44
    go_wp2
    go_ret
    exact ⟨rfl, rfl⟩
  · go_enter Tryz.func44, Tryz.ntmps44
    go_wp2
    go_ret
    exact ⟨rfl, rfl⟩
theorem jtold_any (h : Blk w lb 50 #[.pointer (some ⟨db, 0, none⟩), .string pre, .int .i64 size, pv, .int .i64 syn, .int .i64 mark, .int .i64 err]) (e : Int) (h0 : ¬ e = 0) (h20 : ¬ e = 20) :
    Calls Tryz.prog 44 #[.pointer (some ⟨lb, 0, none⟩), .int .i64 e] w fun x w' => x = .returned (.int .i64 e) ∧ w' = w.setCell ⟨lb, 6, none⟩ (.int .i64 e) := by
  have c6 := h.cell 6
  have f6 := h.free 6
  have hq : (e != 0 && e != 20) = true := by simp [h0, h20]
  clear h
  go_enter Tryz.func44, Tryz.ntmps44
  go_wp2
  go_ret
  exact ⟨rfl, rfl⟩
theorem jbroken_any (h : Blk w lb 50 #[.pointer (some ⟨db, 0, none⟩), .string pre, .int .i64 size, pv, .int .i64 syn, .int .i64 mark, .int .i64 err]) :
    Calls Tryz.prog 30 #[.pointer (some ⟨lb, 0, none⟩)] w fun e w' => e = .returned (.bool (decide (err ≠ 0))) ∧ w' = w := by
  have c6 := h.cell 6
  clear h
  by_cases h0 : err = 0
  · subst h0
    go_enter Tryz.func30, Tryz.ntmps30
    go_wp2
    go_ret
    exact ⟨rfl, rfl⟩
  · go_enter Tryz.func30, Tryz.ntmps30
    go_wp2
    go_ret
    exact ⟨by simp [h0], rfl⟩
end
end Go.Proofs.YtfjkjndpndjfpaaGreatDoor
/- Links, plain: numbers in decimal, the text of a link, and back. No program is named. -/
set_option linter.unusedVariables false
set_option linter.unusedSimpArgs false
namespace Go.Proofs.YtfjkjndpndjfpaaGreatDoor
open Go.RowKit
def digitB (b : UInt8) : Bool := !(decide ((b.toNat : Int) < 48) || decide (57 < (b.toNat : Int)))
def val10 (l : List UInt8) : Int := l.foldl (fun n b => 10 * n + ((b.toNat : Int) - 48)) 0
def negB (l : List UInt8) : Bool := List.isPrefixOf [45] l
def magB (l : List UInt8) : List UInt8 := if negB l then l.drop 1 else l
def shapeB (l : List UInt8) : Bool := !(decide ((magB l).length = 0) || decide (18 < (magB l).length) || (decide ((magB l).head? = some 48) && (decide (1 < (magB l).length) || negB l)))
def numB (l : List UInt8) : Option Int := if shapeB l && (magB l).all digitB then some (if negB l then -(val10 (magB l)) else val10 (magB l)) else none
def unlinkB (s : ByteArray) : Option (Int × ByteArray) :=
  if (64 : UInt8) ∈ s.data.toList then
    match numB (preOf 64 s.data.toList) with
    | some v => if 0 ≤ v ∧ nameOk (ba (s.data.toList.drop ((preOf 64 s.data.toList).length + 1))) = true then some (v, ba (s.data.toList.drop ((preOf 64 s.data.toList).length + 1))) else none
    | none => none
  else none
def linkData (v : Int) (n : ByteArray) : ByteArray := ba (Lib.itoa v ++ 64 :: n.data.toList)
theorem dg_nat {k : Nat} (h : k < 10) : (UInt8.ofNat (48 + k)).toNat = 48 + k := by
  rw [UInt8.toNat_ofNat']
  omega
theorem dec_small {u : Nat} (h : u < 10) : Lib.decDigits u = [UInt8.ofNat (48 + u)] := Lib.decDigits_one h
theorem dec_big {u : Nat} (h : ¬u < 10) : Lib.decDigits u = Lib.decDigits (u / 10) ++ [UInt8.ofNat (48 + u % 10)] := by rw [Lib.decDigits, dif_neg h]
theorem val10_dec (u : Nat) : val10 (Lib.decDigits u) = u := by
  induction u using Nat.strongRecOn with
  | _ u ih =>
    by_cases h : u < 10
    · rw [dec_small h]
      simp only [val10, List.foldl_cons, List.foldl_nil, dg_nat h]
      omega
    · rw [dec_big h]
      have e := ih (u / 10) (by omega)
      unfold val10 at e ⊢
      rw [List.foldl_append, e]
      simp only [List.foldl_cons, List.foldl_nil, dg_nat (Nat.mod_lt u (by decide : 0 < 10))]
      omega
theorem dec_all (u : Nat) : ∀ b ∈ Lib.decDigits u, 48 ≤ b.toNat ∧ b.toNat ≤ 57 := by
  induction u using Nat.strongRecOn with
  | _ u ih =>
    intro b hb
    by_cases h : u < 10
    · rw [dec_small h] at hb
      rw [List.mem_singleton] at hb
      subst hb
      rw [dg_nat h]
      omega
    · rw [dec_big h] at hb
      rcases List.mem_append.1 hb with q | q
      · exact ih (u / 10) (by omega) b q
      · rw [List.mem_singleton] at q
        subst q
        rw [dg_nat (Nat.mod_lt u (by decide : 0 < 10))]
        omega
theorem dec_head (u : Nat) : ∃ b l, Lib.decDigits u = b :: l ∧ (b = 48 → u = 0) := by
  induction u using Nat.strongRecOn with
  | _ u ih =>
    by_cases h : u < 10
    · refine ⟨_, _, dec_small h, fun e => ?_⟩
      have := congrArg UInt8.toNat e
      rw [dg_nat h] at this
      have h48 : (48 : UInt8).toNat = 48 := rfl
      omega
    · obtain ⟨b, l, e, hb⟩ := ih (u / 10) (by omega)
      refine ⟨b, l ++ [UInt8.ofNat (48 + u % 10)], by rw [dec_big h, e]; rfl, fun q => ?_⟩
      have := hb q
      omega
theorem dec_len : ∀ (k u : Nat), u < 10 ^ (k + 1) → (Lib.decDigits u).length ≤ k + 1
  | 0, u, h => by rw [dec_small (by simpa using h)]; simp
  | k + 1, u, h => by
    by_cases h1 : u < 10
    · rw [dec_small h1]; simp
    · rw [dec_big h1, List.length_append]
      have := dec_len k (u / 10) (by rw [Nat.pow_succ] at h; omega)
      simp
      omega
theorem num_itoa {u : Nat} (h : u < 1000000000000000000) : numB (Lib.itoa u) = some (u : Int) := by
  rw [Lib.itoa_nonneg]
  obtain ⟨b, l, e, hb⟩ := dec_head u
  have hall := dec_all u
  have hb2 := hall b (by rw [e]; simp)
  have hn : negB (Lib.decDigits u) = false := by
    rw [e]
    simp only [negB, List.isPrefixOf, Bool.and_true, beq_eq_false_iff_ne]
    intro q
    have := congrArg UInt8.toNat q
    have h45 : (45 : UInt8).toNat = 45 := rfl
    omega
  have hm : magB (Lib.decDigits u) = Lib.decDigits u := by unfold magB; rw [hn]; rfl
  have hl := dec_len 17 u h
  have hs : shapeB (Lib.decDigits u) = true := by
    unfold shapeB
    rw [hm, hn]
    have h1 : ¬(Lib.decDigits u).length = 0 := by rw [e]; simp
    have h2 : ¬18 < (Lib.decDigits u).length := by omega
    rw [decide_eq_false h1, decide_eq_false h2]
    by_cases q : b = 48
    · have hu := hb q
      subst hu
      rw [dec_small (by decide)]
      rfl
    · have : ¬(Lib.decDigits u).head? = some 48 := by rw [e]; simpa using q
      rw [decide_eq_false this]
      rfl
  have hd : (Lib.decDigits u).all digitB = true := by
    rw [List.all_eq_true]
    intro c hc
    have := hall c hc
    unfold digitB
    rw [decide_eq_false (by omega), decide_eq_false (by omega)]
    rfl
  unfold numB
  rw [hs, hm, hd, hn, val10_dec]
  rfl
theorem pre_itoa {u : Nat} (l : List UInt8) : preOf 64 (Lib.itoa u ++ 64 :: l) = Lib.itoa u := by
  rw [Lib.itoa_nonneg]
  unfold preOf
  rw [List.takeWhile_append_of_pos]
  · simp
  · intro b hb
    have := dec_all u b hb
    simp
    rintro rfl
    have h64 : (64 : UInt8).toNat = 64 := rfl
    omega
theorem unlink_link {v : Int} (h0 : 0 ≤ v) (h1 : v < 1000000000000000000) {n : ByteArray} (hn : nameOk n = true) : unlinkB (linkData v n) = some (v, n) := by
  obtain ⟨u, rfl⟩ : ∃ u : Nat, v = u := ⟨v.toNat, by omega⟩
  unfold unlinkB linkData
  simp only [bts_ba]
  rw [if_pos (by simp), pre_itoa, num_itoa (by omega)]
  have e : (Lib.itoa (u : Int) ++ 64 :: n.data.toList).drop ((Lib.itoa (u : Int)).length + 1) = n.data.toList := by
    rw [← List.drop_drop, List.drop_left]
    rfl
  simp only [e, ba_bts, hn]
  rw [if_pos ⟨by omega, trivial⟩]
theorem linkData_size {v : Int} (h0 : 0 ≤ v) (h1 : v < 1000000000000000000) {n : ByteArray} (hn : nameOk n = true) : (linkData v n).size ≤ 79 := by
  obtain ⟨u, rfl⟩ : ∃ u : Nat, v = u := ⟨v.toNat, by omega⟩
  have h2 := (nameOk_size hn).2
  have h3 := dec_len 17 u (by omega)
  have e : (linkData u n).size = (linkData u n).data.toList.length := by simp
  rw [e]
  unfold linkData
  rw [bts_ba, Lib.itoa_nonneg, List.length_append, List.length_cons]
  have e2 : n.data.toList.length = n.size := by simp
  omega
end Go.Proofs.YtfjkjndpndjfpaaGreatDoor
/- Logs, plain: a log on a disk, and what each call does to both. No program is named. -/
set_option linter.unusedVariables false
set_option linter.unusedSimpArgs false
namespace Go.Proofs.YtfjkjndpndjfpaaGreatDoor
open Go.RowKit
/-- A chunk that stands on the disk. -/
structure PartL where
  bodies : List ByteArray
  used : Int
  done : Bool
def PartL.zero : PartL := ⟨[], 0, false⟩
/-- A log. -/
structure LogS where
  pre : ByteArray
  size : Int
  ps : List PartL
  synced : Int
  mark : Int
  bad : Int
def usedOf (l : List ByteArray) : Int := (l.map fun s => (s.size : Int) + 13).sum
def nameK (p : ByteArray) (k : Int) : ByteArray := p ++ (baL (List.replicate (6 - (Lib.itoa k).length) 48) ++ baL (Lib.itoa k))
def newN (p : ByteArray) : ByteArray := p ++ ⟨#[110, 101, 119]⟩
def markN (p : ByteArray) : ByteArray := p ++ ⟨#[109, 97, 114, 107]⟩
/-- The chunk that a file's name tells. -/
def chunkOf (p s : ByteArray) : Option Int :=
  match numB (49 :: s.data.toList.drop p.size) with
  | some v => if 0 ≤ v - 1000000 ∧ nameK p (v - 1000000) = s then some (v - 1000000) else none
  | none => none
def chunksGo (p : ByteArray) : List ByteArray → Int × Int → Int × Int
  | [], r => r
  | s :: l, r => chunksGo p l (match chunkOf p s with
    | some k => (r.1 + 1, max r.2 k)
    | none => r)
namespace LogS
def len (L : LogS) : Int := (L.ps.map fun p => (p.bodies.length : Int)).sum
def told (L : LogS) (e : Int) : LogS := if e ≠ 0 ∧ e ≠ 20 then { L with bad := e } else L
def setPart (L : LogS) (k : Nat) (p : PartL) : LogS := { L with ps := L.ps.set k p }
def chunks (L : LogS) (D : DS) : Int × Int := chunksGo L.pre (D.list L.pre) (0, -1)
def bytes (D : DS) (n : ByteArray) : ByteArray × Int := if (D.size n).2 ≠ 0 then (⟨#[]⟩, (D.size n).2) else D.read n 0 (D.size n).1
def cut (D : DS) (n : ByteArray) (k : Int) : Int × DS := if (D.truncate n k).1 ≠ 0 then D.truncate n k else (D.truncate n k).2.sync n
def drop (D : DS) (n : ByteArray) : Int × DS := if (D.remove n).1 ≠ 8 then D.remove n else (0, (D.remove n).2)
/-- open: a chunk is read. -/
def open1 (L : LogS) (D : DS) (k : Int) (last : Bool) : Int × LogS × DS :=
  let b := bytes D (nameK L.pre k)
  if b.2 ≠ 0 then (b.2, L, D)
  else match readC b.1.data.toList with
    | none => if last then ((D.remove (nameK L.pre k)).1, L, (D.remove (nameK L.pre k)).2) else (6, L, D)
    | some x =>
      if x.number ≠ k ∨ (x.done = false ∧ last = false) then (6, L, D)
      else
        let c : Int × DS := if last then cut D (nameK L.pre k) x.good else (0, D)
        if c.1 ≠ 0 then (c.1, L, c.2) else (0, { L with ps := L.ps ++ [⟨x.bodies, usedOf x.bodies, x.done⟩] }, c.2)
def openGo (L : LogS) (D : DS) (n : Int) : Nat → Int → Int × LogS × DS
  | 0, _ => (0, L, D)
  | f + 1, k => let r := open1 L D k (decide (k = n - 1)); if r.1 ≠ 0 then r else openGo r.2.1 r.2.2 n f (k + 1)
/-- All frames, up to the first one that is none. -/
def framesGo (b : List UInt8) : Nat → List (List UInt8) → Nat → List (List UInt8) × Nat
  | 0, out, at_ => (out, at_)
  | f + 1, out, at_ => let r := firstF (b.drop at_); if r.2.2 ≠ 0 then (out, at_) else framesGo b f (out ++ [r.1]) (at_ + r.2.1)
def frames (b : List UInt8) : List (List UInt8) × Nat := framesGo b (b.length + 1) [] 0
/-- A whole number at the head of bytes. -/
def headI (b : List UInt8) : Int := if b.length < 8 then 0 else i64of (ofBe (b.take 8))
def marked1 (L : LogS) (D : DS) : Int × LogS × DS :=
  let b := bytes D (markN L.pre)
  if b.2 = 8 then (0, L, D)
  else if b.2 ≠ 0 then (b.2, L, D)
  else
    let r := frames b.1.data.toList
    let L1 := match r.1.getLast? with
      | some f => { L with mark := headI f }
      | none => L
    ((cut D (markN L.pre) r.2).1, L1, (cut D (markN L.pre) r.2).2)
def new (p : ByteArray) (size : Int) : LogS := ⟨p, size, [], 0, 0, 0⟩
def openArg (p : ByteArray) (size : Int) : Bool := decide (1 ≤ p.size) && decide (p.size ≤ 20) && decide (100 ≤ size) && decide (size ≤ 1000000)
/-- Open: the error, the log (if there is none), the disk. -/
def openL (D : DS) (p : ByteArray) (size : Int) : Int × LogS × DS :=
  if openArg p size = false then (1, new p size, D)
  else
    let d := drop D (newN p)
    if d.1 ≠ 0 then (d.1, new p size, d.2)
    else
      let c := (new p size).chunks d.2
      if c.2 ≠ c.1 - 1 then (6, new p size, d.2)
      else
        let r := openGo (new p size) d.2 c.1 c.1.toNat 0
        if r.1 ≠ 0 then r
        else
          let m := marked1 r.2.1 r.2.2
          if m.1 ≠ 0 then m else (0, { m.2.1 with synced := m.2.1.len }, m.2.2)
def file (L : LogS) (D : DS) (k : Int) (b : List UInt8) : Int × LogS × DS :=
  ((D.append (nameK L.pre k) (baL b)).1, L.told (D.append (nameK L.pre k) (baL b)).1, (D.append (nameK L.pre k) (baL b)).2)
def sync (L : LogS) (D : DS) : Int × LogS × DS :=
  if L.ps.length = 0 then (0, L, D)
  else
    let r := D.sync (nameK L.pre (L.ps.length - 1))
    if r.1 ≠ 0 then (r.1, L.told r.1, r.2) else (0, { L.told r.1 with synced := L.len }, r.2)
def fresh (L : LogS) (D : DS) : Int × LogS × DS :=
  let s := startE L.ps.length L.size
  if s.2 ≠ 0 then (20, L, D)
  else
    let r := L.file D L.ps.length s.1
    if r.1 ≠ 0 then r else (0, { r.2.1 with ps := r.2.1.ps ++ [PartL.zero] }, r.2.2)
def next (L : LogS) (D : DS) (body : ByteArray) : Int × LogS × DS :=
  match L.ps.getLast? with
  | none => L.fresh D
  | some p =>
    if p.done then L.fresh D
    else if (body.size : Int) ≤ roomC L.size p.used then (0, L, D)
    else
      let r := L.file D (L.ps.length - 1) (finE (L.ps.length - 1) p.bodies.length).1
      if r.1 ≠ 0 then r
      else
        let s := (r.2.1.setPart (L.ps.length - 1) { p with done := true }).sync r.2.2
        if s.1 ≠ 0 then s else s.2.1.fresh s.2.2
def append1 (L : LogS) (D : DS) (body : ByteArray) : Int × LogS × DS :=
  let n := L.next D body
  if n.1 ≠ 0 then n
  else
    let r := n.2.1.file n.2.2 (n.2.1.ps.length - 1) (putF (1 :: body.data.toList)).1
    if r.1 ≠ 0 then r
    else match r.2.1.ps.getLast? with
      | none => r
      | some p => (0, r.2.1.setPart (r.2.1.ps.length - 1) { p with bodies := p.bodies ++ [body], used := p.used + (body.size + 13) }, r.2.2)
def appendGo (L : LogS) (D : DS) : List ByteArray → Int × LogS × DS
  | [] => (0, L, D)
  | s :: l => let r := L.append1 D s; if r.1 ≠ 0 then r else r.2.1.appendGo r.2.2 l
/-- Append: the number, the error, what is left. -/
def append (L : LogS) (D : DS) (l : List ByteArray) : (Int × Int) × LogS × DS :=
  if L.bad ≠ 0 then ((0, L.bad), L, D)
  else if l.any (fun s => decide (roomC L.size 0 < (s.size : Int))) then ((0, 2), L, D)
  else
    let r := L.appendGo D l
    if r.1 ≠ 0 then ((0, r.1), r.2) else ((L.len, 0), r.2)
def sync1 (L : LogS) (D : DS) : Int × LogS × DS := if L.bad ≠ 0 then (L.bad, L, D) else L.sync D
/-- Where a record stands. -/
def findGo : List PartL → Int → Int → Int × Int
  | [], k, n => (k, n)
  | p :: l, k, n => if n < (p.bodies.length : Int) then (k, n) else findGo l (k + 1) (n - p.bodies.length)
def find (L : LogS) (n : Int) : Int × Int := findGo L.ps 0 n
def all (L : LogS) : List ByteArray := L.ps.flatMap (·.bodies)
def get (L : LogS) (n : Int) : ByteArray × Int := if n < 0 ∨ L.len ≤ n then (⟨#[]⟩, 15) else ((L.all[n.toNat]?).getD ⟨#[]⟩, 0)
def range (L : LogS) (from_ most : Int) : List ByteArray := if from_ < 0 then [] else (L.all.drop from_.toNat).take most.toNat
def back (L : LogS) (from_ most : Int) : List ByteArray := if min from_ (L.len - 1) < 0 then [] else ((L.all.take ((min from_ (L.len - 1)).toNat + 1)).reverse).take most.toNat
def shorten (L : LogS) (D : DS) (k at_ : Int) : Int × LogS × DS :=
  match L.ps.getLast? with
  | none => (0, L, D)
  | some p =>
    let r := D.truncate (nameK L.pre k) ((startE k L.size).1.length + usedOf (p.bodies.take at_.toNat))
    if r.1 ≠ 0 then (r.1, L.told r.1, r.2)
    else
      let L1 := (L.told r.1).setPart (L.ps.length - 1) ⟨p.bodies.take at_.toNat, usedOf (p.bodies.take at_.toNat), false⟩
      (0, { L1 with synced := min L1.synced L1.len }, r.2)
/-- The last chunks are removed, down to k + 1 of them, or all. -/
def popGo (L : LogS) (D : DS) (k : Int) (none_ : Bool) : Nat → Int × LogS × DS
  | 0 => (0, L, D)
  | f + 1 =>
    if 0 < L.ps.length ∧ (k < (L.ps.length : Int) - 1 ∨ none_ = true) then
      let r := D.remove (nameK L.pre (L.ps.length - 1))
      if r.1 ≠ 0 then (r.1, L.told r.1, r.2)
      else
        let L1 := { L.told r.1 with ps := L.ps.dropLast }
        popGo { L1 with synced := min L1.synced L1.len } r.2 k none_ f
    else (0, L, D)
def truncate (L : LogS) (D : DS) (n : Int) : Int × LogS × DS :=
  if L.bad ≠ 0 then (L.bad, L, D)
  else if n < 0 ∨ L.len < n then (15, L, D)
  else if n = L.len then (0, L, D)
  else
    let f : Int × Int := if 0 < n then ((L.find (n - 1)).1, (L.find (n - 1)).2 + 1) else (0, 0)
    let r := L.popGo D f.1 (decide (n = 0)) L.ps.length
    if r.1 ≠ 0 then r
    else if n = 0 then (0, r.2) else r.2.1.shorten r.2.2 f.1 f.2
def image (L : LogS) (k : Int) (l : List ByteArray) : List UInt8 := (startE k L.size).1 ++ ((l.flatMap fun s => (putF (1 :: s.data.toList)).1) ++ (finE k l.length).1)
def fitsB : List ByteArray → List ByteArray → Bool
  | [], _ => true
  | _ :: _, [] => false
  | s :: l, b :: m => decide (s.size ≤ b.size) && fitsB l m
def rewrite (L : LogS) (D : DS) (k : Int) (l : List ByteArray) : Int × LogS × DS :=
  if L.bad ≠ 0 then (L.bad, L, D)
  else match (if k < 0 then none else L.ps[k.toNat]?) with
    | none => (15, L, D)
    | some p =>
      if p.done = false then (15, L, D)
      else if l.length ≠ p.bodies.length ∨ fitsB l p.bodies = false then (1, L, D)
      else
        let a := drop D (newN L.pre)
        if a.1 ≠ 0 then (a.1, L.told a.1, a.2)
        else
          let b := a.2.append (newN L.pre) (baL (L.image k l))
          if b.1 ≠ 0 then (b.1, L.told b.1, b.2)
          else
            let c := b.2.sync (newN L.pre)
            if c.1 ≠ 0 then (c.1, L.told c.1, c.2)
            else
              let d := c.2.rename (newN L.pre) (nameK L.pre k)
              if d.1 ≠ 0 then (d.1, L.told d.1, d.2)
              else (0, L.setPart k.toNat { p with bodies := l, used := usedOf l }, d.2)
def chunkLens (L : LogS) : List Int := L.ps.map fun p => (p.bodies.length : Int)
def setMark (L : LogS) (D : DS) (n : Int) : Int × LogS × DS :=
  if L.bad ≠ 0 then (L.bad, L, D)
  else if n < 0 ∨ L.len < n then (15, L, D)
  else
    let a := D.append (markN L.pre) (baL (frameB (i64B n)))
    if a.1 ≠ 0 then (a.1, L.told a.1, a.2)
    else
      let b := a.2.sync (markN L.pre)
      if b.1 ≠ 0 then (b.1, L.told b.1, b.2) else (0, { L with mark := n }, b.2)
def marked (L : LogS) : Int := max (min L.mark L.len) 0
def finished (L : LogS) (k : Int) : Bool := decide (0 ≤ k) && (((L.ps[k.toNat]?).map (·.done)).getD false)
def broken (L : LogS) : Bool := decide (L.bad ≠ 0)
end LogS
end Go.Proofs.YtfjkjndpndjfpaaGreatDoor
/- Contracts: all frames of a text (frame.All). -/
set_option linter.unusedVariables false
set_option linter.unusedSimpArgs false
namespace Go.Proofs.YtfjkjndpndjfpaaGreatDoor
open Go Go.RowKit Go.Sort
theorem app1p {W : World} {base : Nat} {v : Value} {l : List ByteArray} (hown : W.ownsRow base 9 1 v l.length (strs l)) (hb : base ≤ W.heap.size) (hl : l.length ≤ 10000000) (x : ByteArray) :
    ∃ A cap w', (Builtin.append_ #[22, 22] 22 #[v, .slice (some ⟨W.heap.size, 0, none⟩) 1 1]).run Tryz.prog (W.alloc (.cells #[.string x] 9)) = .ok (.slice A (l.length + 1) cap) w' ∧ w'.ownsRow base 9 1 (.slice A (l ++ [x]).length cap) (l ++ [x]).length (strs (l ++ [x])) ∧ Only v.ownBlock.toList (W.alloc (.cells #[.string x] 9)) w' := by
  have hO : Only [] W (W.alloc (.cells #[.string x] 9)) := ((Only.refl [] W).alloc _)
  obtain ⟨A, cap, w', h1, h2, h3, _⟩ := run_app (P := Tryz.prog) (w := (W.alloc (.cells #[.string x] 9))) 22 22 base 9 (.string ⟨#[]⟩) 1 16 Tryz.underlying22 infoSJ rfl (by decide) (own_only hown hO (by simp)) ((slc_new1 (w := W) (e := 9) (size := 1) (cs := strs [x]) rfl)) (by intro u hu; simp [strs] at hu; subst hu; rfl) (by omega) (by unfold maxLen; omega) (Nat.le_trans hb hO.size)
  refine ⟨A, cap, w', h1, ?_, h3⟩
  have e : strs (l ++ [x]) = strs l ++ strs [x] := by simp [strs]
  rw [List.length_append, e]
  exact h2
set_option maxRecDepth 100000 in
set_option maxHeartbeats 2000000 in
theorem fall_any {w : World} (b : ByteArray) (hb : b.size ≤ 1000000) : Calls Tryz.prog 65 #[.string b] w fun e w' =>
    ∃ A cap, e = .returned (.tuple #[.slice A (LogS.frames b.data.toList).1.length cap, .int .i64 (LogS.frames b.data.toList).2]) ∧
      w'.ownsRow w.heap.size 9 1 (.slice A (LogS.frames b.data.toList).1.length cap) (LogS.frames b.data.toList).1.length (strs ((LogS.frames b.data.toList).1.map baL)) ∧ Only [] w w' := by
  have hbl : b.data.toList.length = b.size := by simp
  have hr : LogS.frames b.data.toList = LogS.framesGo b.data.toList (b.size + 1) [] 0 := by unfold LogS.frames; rw [hbl]
  obtain ⟨R, hR⟩ : ∃ R, LogS.frames b.data.toList = R := ⟨_, rfl⟩
  rw [hR] at hr ⊢
  have HR := Lib.hid hr.symm
  clear hr hR
  go_enter Tryz.func65, Tryz.ntmps65
  go_wp2
  go_loopw [4, 5] (fun o a wr => ∃ (out : List (List UInt8)) (at_ : Nat) (A : Option Addr) (cap f : Nat), o = .slice A out.length cap ∧ a = .int .i64 at_ ∧ wr.ownsRow w.heap.size 9 1 (.slice A out.length cap) out.length (strs (out.map baL)) ∧ Only [] w wr ∧ at_ ≤ b.size ∧ out.length ≤ at_ ∧ Hid (LogS.framesGo b.data.toList f out at_ = R) ∧ b.size - at_ < f) (fun _ a _ => b.size + 1 - (intOf a).toNat)
  case atStart => exact ⟨[], 0, none, 0, b.size + 1, rfl, rfl, World.ownsRow_nil _ _ _ _, Only.refl _ _, Nat.zero_le _, Nat.le_refl _, HR, by omega⟩
  case round =>
    obtain ⟨out, at_, A, cap, f, rfl, rfl, hown, hO, hg, hbg, hf, hfu⟩ := hrel
    obtain ⟨f, rfl⟩ : ∃ f', f = f' + 1 := ⟨f - 1, by omega⟩
    have hs := hf.out
    rw [LogS.framesGo] at hs
    have hF := fun W => ffirst_any (w := W) (b.extract at_ b.size) (by rw [ByteArray.size_extract]; omega)
    have hnb : (firstF (b.data.toList.drop at_)).2.1 ≤ b.size - at_ := by
      have := readF_n (b := b.extract at_ b.size) rfl
      rw [readF_first, ext_drop, ByteArray.size_extract] at this
      dsimp only at this
      omega
    have hps := firstF_pos (l := b.data.toList.drop at_)
    rw [readF_first, ext_drop] at hF
    obtain ⟨⟨B, n, e⟩, hff⟩ : ∃ q, firstF (b.data.toList.drop at_) = q := ⟨_, rfl⟩
    rw [hff] at hs hF hnb hps
    dsimp only at hs hF hnb hps
    have HF := Lib.hid hF
    clear hF hff hf hbl HR
    by_cases he : e = 0
    · subst he
      have hp12 : 12 ≤ n := hps rfl
      clear hps
      rw [if_neg (by simp)] at hs
      have HS := Lib.hid hs
      have e1 := IntWalk.i64_in ((at_ : Int) + (n : Int)) ⟨by omega, by omega⟩
      clear hs
      go_wp2_with (first
        | (go_at_call 92; refine (HF.out _).mono ?_; rintro e2 w2 ⟨rfl, k2⟩
           have hown2 := own_only hown k2 (by simp)
           have hmap : (out.map baL).length = out.length := by simp
           rw [← hmap] at hown2
           obtain ⟨A4, c4, w4, hr4, hown4, hO4⟩ := app1p hown2 (hO.trans k2).size (by simp; omega) (baL B)
           rw [hmap] at hr4 hO4
           have HR4 := Lib.hid hr4
           clear hr4)
        | (at_builtin; refine Lib.wpList_append_run _ rfl (.tmp 21) (.tmp 23) 22 22 rfl _ _ rfl rfl _ _ HR4.out ?_))
      have hge := fun g hg => (World.ownsRow.lt hown g hg).1
      have hO5 : Only [] w w4 := ((hO.trans k2).alloc _).step hO4 (fun g hg => .inr (by have h9 := hge g (by simpa using hg); exact h9))
      refine ⟨⟨out ++ [B], at_ + n, A4, c4, f, by simp, by simp, ?_, hO5, by omega, by simp; omega, HS, by omega⟩, by simp [intOf]; omega⟩
      have e4 : (out ++ [B]).length = ((out.map baL) ++ [baL B]).length := by simp
      have e5 : (out ++ [B]).map baL = out.map baL ++ [baL B] := by simp
      rw [e4, e5]
      exact hown4
    · rw [if_pos he] at hs
      subst hs
      go_wp2_with (go_at_call 92; refine (HF.out _).mono ?_; rintro e2 w2 ⟨rfl, k2⟩)
      go_ret2
      exact ⟨A, cap, rfl, own_only hown k2 (by simp), hO.trans k2⟩
end Go.Proofs.YtfjkjndpndjfpaaGreatDoor
/- Contracts: may, find. -/
namespace Go.Proofs.YtfjkjndpndjfpaaGreatDoor
open Go.RowKit

theorem mayAll_drop (l : List ByteArray) (k : Nat) (h : k < l.length) : mayAll (l.drop k) = if badName l[k] then 1 else mayAll (l.drop (k + 1)) := by
  rw [List.drop_eq_getElem_cons h]
  rfl

theorem may_off {w : World} {db mb : Nat} {d : DS} {kv v : Value} {l : List ByteArray} (h : DiskAt w db mb d kv) (ho : d.on = false) :
    Calls Tryz.prog 75 #[.pointer (some ⟨db, 0, none⟩), v] w fun e w' => e = .returned (.int .i64 (d.may l)) ∧ w = w' := by
  have hm : d.may l = 14 := by simp [DS.may, ho]
  rw [hm]
  clear hm
  go_enter Tryz.func75, Tryz.ntmps75
  go_wp2_with (go_at_call 26; refine (on_any h).mono ?_; rintro e w' ⟨rfl, rfl⟩; rw [ho])
  go_ret
  exact ⟨rfl, rfl⟩
theorem may_nil {w : World} (v : Value) :
    Calls Tryz.prog 75 #[.pointer none, v] w fun e w' => e = .returned (.int .i64 14) ∧ w = w' := by
  go_enter Tryz.func75, Tryz.ntmps75
  go_wp2_with (go_at_call 26; refine (on_nil _).mono ?_; rintro e w' ⟨rfl, rfl⟩)
  go_ret
  exact ⟨rfl, rfl⟩

theorem may_on {w : World} {db mb : Nat} {d : DS} {kv v : Value} {l : List ByteArray} (h : DiskAt w db mb d kv) (ho : d.on = true) (hs : Slc w 1 v l.length (strs l)) :
    Calls Tryz.prog 75 #[.pointer (some ⟨db, 0, none⟩), v] w fun e w' => e = .returned (.int .i64 (d.may l)) ∧ w = w' := by
  have hm : d.may l = mayAll l := by simp [DS.may, ho]
  rw [hm]
  clear hm
  obtain ⟨A, cap, rfl, hnc, hcm, hl, hc⟩ := hs.cell
  have hcm' : l.length ≤ 9223372036854775807 := by unfold maxLen at hcm; omega
  clear hcm hl hnc
  go_enter Tryz.func75, Tryz.ntmps75
  go_wp2_with (go_at_call 26; refine (on_any h).mono ?_; rintro e w' ⟨rfl, rfl⟩; rw [ho])
  go_loop [12] (fun i => ∃ k : Nat, k ≤ l.length ∧ i = .int .i64 k ∧ Hid (mayAll l = mayAll (l.drop k))) (fun i => l.length - (intOf i).toNat)
  case atStart => exact ⟨0, Nat.zero_le _, rfl, rfl⟩
  case round =>
    obtain ⟨k, hk, rfl, hm⟩ := hrel
    by_cases hlt : k < l.length
    · obtain ⟨b, off, rfl, _, hcell⟩ : ∃ b off, A = some ⟨b, off, none⟩ ∧ b < w.heap.size ∧ ∀ j, j < (strs l).length → w.cell? ⟨b, off + j, none⟩ = (strs l)[j]? := by
        rcases hc with h0 | h0
        · omega
        · exact h0
      obtain ⟨s, hse⟩ : ∃ s, s = l[k] := ⟨_, rfl⟩
      have hck : w.cell? ⟨b, off + k, none⟩ = some (.string s) := by
        rw [hcell k (by simpa [strs] using hlt), hse]
        simp [strs, hlt]
      have hd : Hid (mayAll (l.drop k) = if badName s then 1 else mayAll (l.drop (k + 1))) := by rw [hse]; exact mayAll_drop l k hlt
      clear hse hc hcell
      by_cases h1 : s.size < 1
      · go_wp2
        go_ret
        refine ⟨?_, rfl⟩
        rw [hm.out, hd.out, if_pos (by simp [badName, h1])]
        rfl
      · by_cases h2 : 40 < s.size
        · go_wp2
          go_ret
          refine ⟨?_, rfl⟩
          rw [hm.out, hd.out, if_pos (by simp [badName, h2])]
          rfl
        · go_wp2
          go_round
          case rel => exact ⟨k + 1, by omega, by go_num, by rw [Hid, hm.out, hd.out, if_neg (by simp only [badName, Bool.or_eq_true, decide_eq_true_eq]; omega)]⟩
          case measure => simp [intOf]; omega
    · have hkl : k = l.length := by omega
      have hz : Hid (mayAll (l.drop k) = 0) := by rw [hkl, List.drop_length]; rfl
      clear hkl
      go_wp2
      go_ret
      refine ⟨?_, rfl⟩
      rw [hm.out, hz.out]
      rfl
theorem may_any {w : World} {db mb : Nat} {d : DS} {kv v : Value} {l : List ByteArray} (h : DiskAt w db mb d kv) (hs : Slc w 1 v l.length (strs l)) :
    Calls Tryz.prog 75 #[.pointer (some ⟨db, 0, none⟩), v] w fun e w' => e = .returned (.int .i64 (d.may l)) ∧ w = w' := by
  cases ho : d.on
  · exact may_off h ho
  · exact may_on h ho hs

/-- What a variadic call lays: a new row of one text. -/
theorem slc_lit {w : World} (cs : List Value) (e : TypeId) (h : cs.length ≤ 1000) : Slc (w.alloc (.cells cs.toArray e)) 1 (.slice (some ⟨w.heap.size, 0, none⟩) cs.length cs.length) cs.length cs :=
  ⟨_, _, rfl, by simp, Nat.le_refl _, by unfold maxLen; omega, fun _ => ⟨_, 0, rfl, by simp, fun j hj => by
    rw [Nat.zero_add, cell_of_row _ _ _ _ _ _ (heap_alloc_new w _)]
    simp⟩⟩
theorem slc_one {w : World} {g : Nat} {s : ByteArray} {e : TypeId} (h : w.heap[g]? = some (.cells #[.string s] e (0, 0))) : Slc w 1 (.slice (some ⟨g, 0, none⟩) 1 1) [s].length (strs [s]) :=
  ⟨_, _, rfl, rfl, Nat.le_refl _, by unfold maxLen; omega, fun _ => ⟨_, 0, rfl, lt_of_block h, fun j hj => by
    rw [Nat.zero_add, cell_of_row _ _ _ _ _ _ h]
    simp [strs]⟩⟩
theorem zeroFile (w : World) : (zeroValue 75).run Tryz.prog w = .ok File.zero.val w := by kernel_rfl

theorem getV {d : DS} (n : ByteArray) : (aget (d.fs.map fun p => (p.1, p.2.val)) n).getD File.zero.val = .agg #[.string (d.get n).b, .int .i64 (d.get n).lasts, .bool (d.get n).known] := by
  rw [aget_map]
  unfold DS.get
  cases aget d.fs n <;> rfl
theorem isV {d : DS} (n : ByteArray) : (aget (d.fs.map fun p => (p.1, p.2.val)) n).isSome = (aget d.fs n).isSome := by
  rw [aget_map]
  cases aget d.fs n <;> rfl

theorem find_may {w : World} {db mb : Nat} {d : DS} {kv : Value} (h : DiskAt w db mb d kv) (n : ByteArray) (hm : d.may [n] ≠ 0) :
    Calls Tryz.prog 78 #[.pointer (some ⟨db, 0, none⟩), .string n] w fun e w' => e = .returned (.tuple #[(d.find n).1.val, .int .i64 (d.find n).2]) ∧ Only [] w w' := by
  have hf : d.find n = (File.zero, d.may [n]) := by simp [DS.find, hm]
  have hA : ∀ o1 o2, DiskAt ((w.alloc o1).alloc o2) db mb d kv := fun o1 o2 => h.only (((Only.refl [] w).alloc o1).alloc o2) (by simp) (by simp) (by simp)
  have hm1 : (d.may [n] != 0) = true := by simp [hm]
  rw [hf]
  clear hf hm
  go_enter Tryz.func78, Tryz.ntmps78
  go_wp2_with (go_at_call 75; refine (may_any (l := [n]) (hA _ _) (slc_one (heap_alloc2_new _ _ _))).mono ?_; rintro e w' ⟨rfl, rfl⟩)
  refine bodyPost_ret (v := .tuple #[File.zero.val, .int .i64 (d.may [n])]) (by simp [results, Tryz.results78, go_sem, File.zero, File.val]) rfl ⟨rfl, ?_⟩
  exact ((((Only.refl [] w).alloc _).alloc _))

theorem find_any {w : World} {db mb : Nat} {d : DS} {kv : Value} (h : DiskAt w db mb d kv) (n : ByteArray) :
    Calls Tryz.prog 78 #[.pointer (some ⟨db, 0, none⟩), .string n] w fun e w' => e = .returned (.tuple #[(d.find n).1.val, .int .i64 (d.find n).2]) ∧ Only [] w w' := by
  by_cases hm : d.may [n] = 0
  case neg => exact find_may h n hm
  have hA : ∀ o1 o2, DiskAt ((w.alloc o1).alloc o2) db mb d kv := fun o1 o2 => h.only (((Only.refl [] w).alloc o1).alloc o2) (by simp) (by simp) (by simp)
  have c2 : ∀ o1 o2, ((w.alloc o1).alloc o2).cell? ⟨db, 2, none⟩ = some (.map (some mb)) := fun o1 o2 => (hA o1 o2).blk.cell 2
  have hm1 : (d.may [n] != 0) = false := by simp [hm]
  cases hi : (aget d.fs n).isSome
  · have hf : d.find n = (File.zero, 8) := by simp [DS.find, hm, hi]
    rw [hf]
    clear hf hm
    go_enter Tryz.func78, Tryz.ntmps78
    go_wp2_with (first | (go_at_call 75; refine (may_any (l := [n]) (hA _ _) (slc_one (heap_alloc2_new _ _ _))).mono ?_; rintro e w' ⟨rfl, rfl⟩) | (at_lookup; refine wpList_lookup_ok_is rfl 55 rfl keyEnc_string Tryz.underlying55 Tryz.underlying9 (zeroFile _) n rfl rfl (hA _ _).map _ _ (getV n) ((isV n).trans hi) ?_))
    refine bodyPost_ret (v := .tuple #[File.zero.val, .int .i64 8]) (by simp [results, Tryz.results78, go_sem, File.zero, File.val]) rfl ⟨rfl, ?_⟩
    exact (((Only.refl [] w).alloc _).alloc _).alloc _
  · have hf : d.find n = (d.get n, 0) := by simp [DS.find, hm, hi]
    rw [hf]
    clear hf hm
    go_enter Tryz.func78, Tryz.ntmps78
    go_wp2_with (first | (go_at_call 75; refine (may_any (l := [n]) (hA _ _) (slc_one (heap_alloc2_new _ _ _))).mono ?_; rintro e w' ⟨rfl, rfl⟩) | (at_lookup; refine wpList_lookup_ok_is rfl 55 rfl keyEnc_string Tryz.underlying55 Tryz.underlying9 (zeroFile _) n rfl rfl (hA _ _).map _ _ (getV n) ((isV n).trans hi) ?_))
    refine bodyPost_ret (v := .tuple #[(d.get n).val, .int .i64 0]) (by simp [results, Tryz.results78, go_sem, File.val]) rfl ⟨rfl, ?_⟩
    exact (((Only.refl [] w).alloc _).alloc _).alloc _
theorem find_nil (w : World) (n : ByteArray) :
    Calls Tryz.prog 78 #[.pointer none, .string n] w fun e w' => e = .returned (.tuple #[File.zero.val, .int .i64 14]) ∧ Only [] w w' := by
  go_enter Tryz.func78, Tryz.ntmps78
  go_wp2_with (go_at_call 75; refine (may_nil _).mono ?_; rintro e w' ⟨rfl, rfl⟩)
  refine bodyPost_ret (v := .tuple #[File.zero.val, .int .i64 14]) (by simp [results, Tryz.results78, go_sem, File.zero, File.val]) rfl ⟨rfl, ?_⟩
  exact ((Only.refl [] w).alloc _).alloc _
end Go.Proofs.YtfjkjndpndjfpaaGreatDoor
/- Ranging over a map whose entries are known as an association list: what is still to come is a list too; which entry comes next is left open. No program is named. -/
set_option linter.unusedVariables false
set_option linter.unusedSimpArgs false
namespace Go.Proofs.YtfjkjndpndjfpaaGreatDoor
open Go.RowKit Go.MapKept Go.ChangeMaps

section
variable {κ : Type} [DecidableEq κ]
/-- Block r is an iterator over the map in block b that holds kv; left is still to come. -/
def IterIs (enc : κ → Value) (w : World) (r b : Nat) (kv left : List (κ × Value)) : Prop :=
  ∃ es clock since seen c0, w.heap[b]? = some (.map es clock) ∧ Stamped es clock ∧ es.toList.map (fun x => (x.key, x.val)) = kv.map (fun p => (enc p.1, p.2)) ∧
    w.heap[r]? = some (.mapIter (some b) since seen c0) ∧ (∀ x ∈ es.toList, x.born < since) ∧ since ≤ c0 ∧ since ≤ clock ∧
    (leftOf es seen).toList.map (fun x => (x.key, x.val)) = left.map (fun p => (enc p.1, p.2))

set_option linter.unusedSectionVars false
variable {enc : κ → Value} {w w' : World} {r b : Nat} {kv left : List (κ × Value)}
theorem IterIs.map (h : IterIs enc w r b kv left) : MapIs enc w b kv := by
  obtain ⟨es, clock, _, _, _, h1, h2, h3, _⟩ := h
  exact ⟨es, clock, h1, h2, h3⟩
theorem IterIs.ne (h : IterIs enc w r b kv left) : r ≠ b := by
  obtain ⟨es, clock, _, _, _, h1, _, _, h2, _⟩ := h
  intro e
  subst e
  rw [h1] at h2
  simp at h2
theorem IterIs.lt (h : IterIs enc w r b kv left) : r < w.heap.size ∧ b < w.heap.size := by
  obtain ⟨es, clock, _, _, _, h1, _, _, h2, _⟩ := h
  exact ⟨lt_of_block h2, lt_of_block h1⟩
theorem IterIs.of_eq (h : IterIs enc w r b kv left) (hr : w'.heap[r]? = w.heap[r]?) (hb : w'.heap[b]? = w.heap[b]?) : IterIs enc w' r b kv left := by
  obtain ⟨es, clock, since, seen, c0, h1, h2, h3, h4, h5⟩ := h
  exact ⟨es, clock, since, seen, c0, hb.trans h1, h2, h3, hr.trans h4, h5⟩
theorem IterIs.only {S : List Nat} (h : IterIs enc w r b kv left) (k : Only S w w') (hr : r ∉ S) (hb : b ∉ S) : IterIs enc w' r b kv left :=
  h.of_eq (k.block r h.lt.1 hr) (k.block b h.lt.2 hb)
theorem IterIs.left_eq (h : IterIs enc w r b kv left) : w.rangeLeft b r = left.length := by
  obtain ⟨es, clock, since, seen, c0, h1, _, _, h2, _, _, _, h3⟩ := h
  have hl := congrArg List.length h3
  simp only [World.rangeLeft, h1, h2]
  simpa using hl

theorem leftOf_push (es : Array MapEntry) (hn : (es.toList.map (·.born)).Nodup) (seen : Array Nat) (l1 l2 : List MapEntry) (e : MapEntry) (h : (leftOf es seen).toList = l1 ++ e :: l2) : (leftOf es (seen.push e.born)).toList = l1 ++ l2 := by
  have hf : (leftOf es (seen.push e.born)).toList = (leftOf es seen).toList.filter (fun x => x.born != e.born) := by
    simp only [leftOf, Array.toList_filter, List.filter_filter]
    apply List.filter_congr
    intro x _
    rw [Bool.eq_iff_iff]
    simp
    exact ⟨fun hx => ⟨hx.2, hx.1⟩, fun hx => ⟨hx.2, hx.1⟩⟩
  have hs : ((leftOf es seen).toList.map (·.born)).Nodup := by
    simp only [leftOf, Array.toList_filter]
    exact List.Nodup.sublist (List.Sublist.map _ List.filter_sublist) hn
  rw [hf, h]
  rw [h] at hs
  simp only [List.map_append, List.map_cons] at hs
  have hs' := List.nodup_append.1 hs
  obtain ⟨_, hs2, hs3⟩ := hs'
  have hs4 := List.nodup_cons.1 hs2
  rw [List.filter_append, List.filter_cons_of_neg (by simp)]
  rw [List.filter_eq_self.2, List.filter_eq_self.2]
  · intro x hx
    simp only [bne_iff_ne]
    intro q
    exact hs4.1 (List.mem_map.2 ⟨x, hx, q⟩)
  · intro x hx
    simp only [bne_iff_ne]
    intro q
    exact hs3 x.born (List.mem_map.2 ⟨x, hx, rfl⟩) e.born (by simp) q

theorem map_split {α β γ : Type} {f : α → γ} {g : β → γ} : ∀ {l : List α} {l1 : List α} {x : α} {l2 : List α} {m : List β}, l = l1 ++ x :: l2 → l.map f = m.map g → ∃ m1 y m2, m = m1 ++ y :: m2 ∧ l1.map f = m1.map g ∧ f x = g y ∧ l2.map f = m2.map g
  | l, [], x, l2, m, h, e => by
    subst h
    cases m with
    | nil => simp at e
    | cons y m => simp at e; exact ⟨[], y, m, rfl, rfl, e.1, e.2⟩
  | l, a :: l1, x, l2, m, h, e => by
    subst h
    cases m with
    | nil => simp at e
    | cons y m =>
      simp only [List.cons_append, List.map_cons, List.cons.injEq] at e
      obtain ⟨m1, z, m2, p1, p2, p3, p4⟩ := map_split (l := l1 ++ x :: l2) rfl e.2
      exact ⟨y :: m1, z, m2, by simp [p1], by simp [e.1, p2], p3, p4⟩

variable {P : Program} {t k e : TypeId}
theorem MapIs.range (ht : P.underlying t = some (.map k e)) (h : MapIs enc w b kv) :
    ∃ o, (Instr.range t (.map (some b))).run P w = .ok (.pointer (some ⟨w.heap.size, 0, none⟩)) (w.alloc o) ∧ IterIs enc (w.alloc o) w.heap.size b kv kv := by
  have hlt := h.lt
  obtain ⟨es, clock, hb, hs, hm⟩ := h
  refine ⟨.mapIter (some b) clock #[] clock, ?_, es, clock, clock, #[], clock, ?_, hs, hm, heap_alloc_new w _, hs.1, Nat.le_refl _, Nat.le_refl _, ?_⟩
  · simp [Instr.range, run_underlying ht, MapKept.run_getObj_map hb, Result.andThen]
  · exact (Below.heap_alloc _ _ _ hlt).trans hb
  · have : leftOf es #[] = es := by simp [leftOf]
    rw [this]; exact hm

theorem IterIs.next (h : IterIs enc w r b kv left) (ty : TypeId) :
    (left = [] ∧ (Instr.next (.pointer (some ⟨r, 0, none⟩)) false ty).run P w = .ok (.tuple #[.bool false]) w) ∨
    ∃ l1 p l2 w', left = l1 ++ p :: l2 ∧ (Instr.next (.pointer (some ⟨r, 0, none⟩)) false ty).run P w = .ok (.tuple #[.bool true, enc p.1, p.2]) w' ∧ IterIs enc w' r b kv (l1 ++ l2) ∧ Only [r] w w' ∧
      (Instr.entry (.pointer (some ⟨r, 0, none⟩))).run P w' = .ok (.tuple #[enc p.1, p.2]) w' := by
  have hne := h.ne
  obtain ⟨es, clock, since, seen, c0, hb, hs, hm, hr, hold, hsc, hsk, hl⟩ := h
  rcases run_next_at (P := P) w ty r b since c0 seen es clock hr hb hold hsc with ⟨h0, hrun⟩ | ⟨x, hx, w1, hw1, hrun⟩
  · refine .inl ⟨?_, hrun⟩
    have h1 : (leftOf es seen).toList = [] := by simpa using h0
    rw [h1] at hl
    simpa using hl.symm
  · obtain ⟨s1, s2, hsp⟩ := List.append_of_mem hx
    obtain ⟨l1, p, l2, e1, e2, e3, e4⟩ := map_split hsp hl
    simp only [Prod.mk.injEq] at e3
    have hheap : w1.heap = w.heap := by rcases hw1 with rfl | rfl <;> rfl
    have ho1 : Only [r] w w1 := by rcases hw1 with rfl | rfl; exact Only.refl _ _; exact (Only.refl _ _).drew
    have hr1 : r < w1.heap.size := by rw [hheap]; exact lt_of_block hr
    have ha : (setBlock w1 r (.mapIter (some b) since (seen.push x.born) clock)).heap[r]? = some (.mapIter (some b) since (seen.push x.born) clock) := by
      simp [setBlock, hr1]
    have hbb : (setBlock w1 r (.mapIter (some b) since (seen.push x.born) clock)).heap[b]? = some (.map es clock) := by
      simp only [setBlock, Array.getElem?_setIfInBounds]
      rw [if_neg hne, hheap, hb]
    have hx' : x ∈ es.toList := (mem_left hx).1
    refine .inr ⟨l1, p, l2, _, e1, ?_, ⟨es, clock, since, seen.push x.born, clock, hbb, hs, hm, ha, hold, hsk, hsk, ?_⟩, ho1.setBlock (.inl (by simp)) _, ?_⟩
    · rw [← e3.1, ← e3.2]; exact hrun
    · rw [leftOf_push es hs.2.1 seen s1 s2 x hsp]
      simp [e2, e4]
    · rw [← e3.1, ← e3.2]
      exact run_entry_at _ r b since seen es clock x ha hbb hx' hs.2.1

variable {ops : Array Oper} {rest : List Oper} {o : Oper} {a : Act} {Q : Exit → Act → World → Prop}
theorem wpList_range_is (hg : o.guard = none) {m : Operand} (t : TypeId) (hop : o.op = .range t m) (ht : P.underlying t = some (.map k e)) (hm : a.eval m = .map (some b)) (h : MapIs enc w b kv)
    (hK : ∀ o', IterIs enc (w.alloc o') w.heap.size b kv kv → wpList P ops Q rest (a.put o.dst (.pointer (some ⟨w.heap.size, 0, none⟩))) (w.alloc o')) : wpList P ops Q (o :: rest) a w := by
  refine wpList_plain hg fun K' hK' => ?_
  obtain ⟨o', hrun, r1⟩ := h.range ht
  unfold Oper.wp
  simp [execOp, hop, hm, hrun, Result.andThen]
  exact hK' _ _ (hK o' r1)
theorem wpList_next_is (hg : o.guard = none) {it : Operand} (hop : o.op = .next it false) (hit : a.eval it = .pointer (some ⟨r, 0, none⟩)) (h : IterIs enc w r b kv left)
    (hDone : left = [] → wpList P ops Q rest (a.put o.dst (.tuple #[.bool false])) w)
    (hMore : ∀ l1 p l2 w', left = l1 ++ p :: l2 → IterIs enc w' r b kv (l1 ++ l2) → Only [r] w w' → (Instr.entry (.pointer (some ⟨r, 0, none⟩))).run P w' = .ok (.tuple #[enc p.1, p.2]) w' →
      wpList P ops Q rest (a.put o.dst (.tuple #[.bool true, enc p.1, p.2])) w') : wpList P ops Q (o :: rest) a w := by
  refine wpList_plain hg fun K' hK' => ?_
  unfold Oper.wp
  rcases h.next (P := P) o.type with ⟨h0, hrun⟩ | ⟨l1, p, l2, w', h0, hrun, h1, h2, h3⟩
  · simp [execOp, hop, hit, hrun, Result.andThen]
    exact hK' _ _ (hDone h0)
  · simp [execOp, hop, hit, hrun, Result.andThen]
    exact hK' _ _ (hMore l1 p l2 w' h0 h1 h2 h3)
end
end Go.Proofs.YtfjkjndpndjfpaaGreatDoor
/- Contracts: Used, full. -/
namespace Go.Proofs.YtfjkjndpndjfpaaGreatDoor
open Go.RowKit

def fvals (l : List (ByteArray × File)) : List (ByteArray × Value) := l.map fun p => (p.1, p.2.val)
theorem fvals_split {L : List (ByteArray × File)} {l1 l2 : List (ByteArray × Value)} {p : ByteArray × Value} (h : fvals L = l1 ++ p :: l2) :
    ∃ m1 q m2, L = m1 ++ q :: m2 ∧ l1 = fvals m1 ∧ p = (q.1, .agg #[.string q.2.b, .int .i64 q.2.lasts, .bool q.2.known]) ∧ l2 = fvals m2 := by
  obtain ⟨m1, q, m2, h1, h2, h3, h4⟩ := map_split (f := id) (g := fun p : ByteArray × File => (p.1, p.2.val)) rfl ((List.map_id _).trans h.symm)
  exact ⟨m1, q, m2, h1, by simpa [fvals] using h2, h3, by simpa [fvals] using h4⟩

theorem wpList_next_files {P : Program} {w : World} {r b : Nat} {kv : List (ByteArray × Value)} {left : List (ByteArray × File)} {ops : Array Oper} {rest : List Oper} {o : Oper} {a : Act} {Q : Exit → Act → World → Prop}
    (hg : o.guard = none) {it : Operand} (hop : o.op = .next it false) (hit : a.eval it = .pointer (some ⟨r, 0, none⟩)) (h : IterIs Value.string w r b kv (fvals left))
    (hDone : left = [] → wpList P ops Q rest (a.put o.dst (.tuple #[.bool false])) w)
    (hMore : ∀ l1 q l2 w', left = l1 ++ q :: l2 → IterIs Value.string w' r b kv (fvals (l1 ++ l2)) → Only [r] w w' → (Instr.entry (.pointer (some ⟨r, 0, none⟩))).run P w' = .ok (.tuple #[.string q.1, .agg #[.string q.2.b, .int .i64 q.2.lasts, .bool q.2.known]]) w' →
      wpList P ops Q rest (a.put o.dst (.tuple #[.bool true, .string q.1, .agg #[.string q.2.b, .int .i64 q.2.lasts, .bool q.2.known]])) w') : wpList P ops Q (o :: rest) a w :=
  wpList_next_is hg hop hit h (fun h0 => hDone (by simpa [fvals] using h0)) (fun l1 p l2 w' h0 h1 h2 h3 => by
    obtain ⟨m1, q, m2, e1, rfl, rfl, rfl⟩ := fvals_split h0
    exact hMore m1 q m2 w' e1 (by simpa [fvals] using h1) h2 h3)

theorem used_any {w : World} {db mb : Nat} {d : DS} {kv : Value} {M : Nat} (h : DiskAt w db mb d kv) (hM : sizes d.fs ≤ M) (hM2 : M ≤ 4611686018427387904) :
    Calls Tryz.prog 96 #[.pointer (some ⟨db, 0, none⟩)] w fun e w' => e = .returned (.int .i64 d.used) ∧ Only [] w w' := by
  have c2 : w.cell? ⟨db, 2, none⟩ = some (.map (some mb)) := h.blk.cell 2
  have hml := h.map.lt
  have hu : d.used = (sizes d.fs : Int) := rfl
  rw [hu]
  clear hu
  obtain ⟨T, hT⟩ : ∃ T, T = sizes d.fs := ⟨_, rfl⟩
  have HT := Lib.hid hT
  have hTM : T ≤ 4611686018427387904 := by omega
  rw [← hT]
  clear hT hM
  have hmap := h.map
  have hm2 : ∀ o1 : Obj, MapIs Value.string (w.alloc o1) mb (fvals d.fs) := fun o1 => hmap.alloc _
  go_enter Tryz.func96, Tryz.ntmps96
  go_wp2_with (first | (at_range; refine wpList_range_is rfl 55 rfl Tryz.underlying55 rfl hmap ?_; intro o' hit))
  go_frame
  go_loopw [3] (fun n wr => ∃ (s : Nat) (left : List (ByteArray × File)), n = .int .i64 s ∧ s ≤ T ∧ Hid (s + sizes left = T) ∧ IterIs Value.string wr w.heap.size mb (fvals d.fs) (fvals left) ∧ Only [] w wr) (fun _ wr => wr.rangeLeft mb w.heap.size)
  case atStart => exact ⟨0, d.fs, rfl, Nat.zero_le _, by have := HT.out; unfold Hid; omega, hit, (Only.refl _ _).alloc _⟩
  case round =>
    obtain ⟨s, left, rfl, hsT, hs, hi, ho⟩ := hrel
    go_wp2_with (at_next; refine wpList_next_files rfl rfl rfl hi ?_ ?_)
    · intro h0
      have hf : Hid (s = T) := by have := hs.out; rw [h0] at this; unfold Hid; simpa [sizes] using this
      clear h0 hs
      go_wp2
      go_ret
      exact ⟨by rw [hf.out]; rfl, ho⟩
    · intro l1 qn q l2 w' hsp hi' ho' hen
      have hs2 : Hid (q.b.size + s + sizes (l1 ++ l2) = T) := by have := hs.out; rw [hsp, sizes_split] at this; simp only at this; unfold Hid; omega
      have hq : q.b.size + s ≤ T := by have := hs2.out; omega
      have hmu := hi'.left_eq
      have hmu0 := hi.left_eq
      have HL : Hid (w'.rangeLeft mb w.heap.size < wr.rangeLeft mb w.heap.size) := by rw [Hid, hmu, hmu0, hsp]; simp [fvals]
      have hR : Hid (Only [] w w') := ho.step ho' (fun i hi => by simp at hi; subst hi; exact .inr (Nat.le_refl _))
      have hS := ho.size
      have hw' := hi'.lt
      clear hmu hmu0 hs hsp hi ho ho'
      go_wp2
      go_roundw
      case rel => exact ⟨q.b.size + s, l1 ++ l2, by go_num, by omega, hs2, hi'.of_eq (Below.heap_alloc _ _ _ hw'.1) (Below.heap_alloc _ _ _ hw'.2), (hR.out).alloc _⟩
      case measure =>
        have e : ∀ o1 : Obj, (w'.alloc o1).rangeLeft mb w.heap.size = w'.rangeLeft mb w.heap.size := fun o1 => by
          simp only [World.rangeLeft, Below.heap_alloc _ _ _ hw'.1, Below.heap_alloc _ _ _ hw'.2]
        rw [e]
        exact HL.out
theorem used_nil (w : World) : Calls Tryz.prog 96 #[.pointer none] w fun e w' => e = .returned (.int .i64 0) ∧ w = w' := by
  go_enter Tryz.func96, Tryz.ntmps96
  go_wp2
  go_ret
  exact ⟨rfl, rfl⟩
end Go.Proofs.YtfjkjndpndjfpaaGreatDoor
/- Contract: full. -/
namespace Go.Proofs.YtfjkjndpndjfpaaGreatDoor
open Go.RowKit Go.Sort

theorem full_1 {w : World} {db mb : Nat} {d : DS} {kv : Value} (h : DiskAt w db mb d kv) (n s : ByteArray) (hi : (aget d.fs n).isSome = false) (hl : 200 ≤ d.fs.length) :
    Calls Tryz.prog 76 #[.pointer (some ⟨db, 0, none⟩), .string n, .string s] w fun e w' => e = .returned (.bool true) ∧ Only [] w w' := by
  have c2 : ∀ o1, (w.alloc o1).cell? ⟨db, 2, none⟩ = some (.map (some mb)) := fun o1 => (h.only ((Only.refl [] w).alloc o1) (by simp) (by simp) (by simp)).blk.cell 2
  have c20 : w.cell? ⟨db, 2, none⟩ = some (.map (some mb)) := h.blk.cell 2
  have hlen : ∀ o1 k, (Builtin.len_ #[55] 3 #[.map (some mb)]).run Tryz.prog ((w.alloc o1).drewN k) = .ok (.int .i64 d.fs.length) ((w.alloc o1).drewN k) := fun o1 k => by
    have := MapIs.len (P := Tryz.prog) Tryz.underlying55 (w := (w.alloc o1).drewN k) (h.map.of_eq (Below.heap_alloc _ o1 _ h.map.lt)) 3
    simpa using this
  have hd : decide ((200 : Int) ≤ (d.fs.length : Int)) = true := by simp; omega
  clear hl
  go_enter Tryz.func76, Tryz.ntmps76
  go_wp2_with (at_lookup; refine wpList_lookup_ok_is rfl 55 rfl keyEnc_string Tryz.underlying55 Tryz.underlying9 (zeroFile _) n rfl rfl h.map _ _ (getV n) ((isV n).trans hi) ?_)
  go_quiet (fail)
  go_wp2
  go_ret
  exact ⟨rfl, ((Only.refl [] w).alloc _).drewN _⟩

theorem full_2 {w : World} {db mb : Nat} {d : DS} {kv : Value} (h : DiskAt w db mb d kv) (n s : ByteArray) (hi : (aget d.fs n).isSome = true ∨ d.fs.length < 200) (hr : d.room ≤ 0) :
    Calls Tryz.prog 76 #[.pointer (some ⟨db, 0, none⟩), .string n, .string s] w fun e w' => e = .returned (.bool false) ∧ Only [] w w' := by
  have c1 : ∀ o1, (w.alloc o1).cell? ⟨db, 1, none⟩ = some (.int .i64 d.room) := fun o1 => (h.only ((Only.refl [] w).alloc o1) (by simp) (by simp) (by simp)).blk.cell 1
  have c2 : ∀ o1, (w.alloc o1).cell? ⟨db, 2, none⟩ = some (.map (some mb)) := fun o1 => (h.only ((Only.refl [] w).alloc o1) (by simp) (by simp) (by simp)).blk.cell 2
  have c20 : w.cell? ⟨db, 2, none⟩ = some (.map (some mb)) := h.blk.cell 2
  have hlen : ∀ o1 k, (Builtin.len_ #[55] 3 #[.map (some mb)]).run Tryz.prog ((w.alloc o1).drewN k) = .ok (.int .i64 d.fs.length) ((w.alloc o1).drewN k) := fun o1 k => by
    have := MapIs.len (P := Tryz.prog) Tryz.underlying55 (w := (w.alloc o1).drewN k) (h.map.of_eq (Below.heap_alloc _ o1 _ h.map.lt)) 3
    simpa using this
  have hd0 : decide ((0 : Int) < d.room) = false := by simp; omega
  cases hi1 : (aget d.fs n).isSome
  · have hd : decide ((200 : Int) ≤ (d.fs.length : Int)) = false := by simp [hi1] at hi; simp; omega
    clear hr hi
    go_enter Tryz.func76, Tryz.ntmps76
    go_wp2_with (at_lookup; refine wpList_lookup_ok_is rfl 55 rfl keyEnc_string Tryz.underlying55 Tryz.underlying9 (zeroFile _) n rfl rfl h.map _ _ (getV n) ((isV n).trans hi1) ?_)
    go_quiet (fail)
    go_wp2
    go_ret
    exact ⟨rfl, ((Only.refl [] w).alloc _).drewN _⟩
  · clear hr hi
    go_enter Tryz.func76, Tryz.ntmps76
    go_wp2_with (at_lookup; refine wpList_lookup_ok_is rfl 55 rfl keyEnc_string Tryz.underlying55 Tryz.underlying9 (zeroFile _) n rfl rfl h.map _ _ (getV n) ((isV n).trans hi1) ?_)
    go_quiet (fail)
    go_wp2
    go_ret
    exact ⟨rfl, ((Only.refl [] w).alloc _).drewN _⟩

theorem DiskAt.drew {w : World} {db mb : Nat} {d : DS} {kv : Value} (h : DiskAt w db mb d kv) : DiskAt w.drew db mb d kv := h.only ((Only.refl [] w).drew) (by simp) (by simp) (by simp)
theorem DiskAt.only0 {w w' : World} {db mb : Nat} {d : DS} {kv : Value} (h : DiskAt w db mb d kv) (k : Only [] w w') : DiskAt w' db mb d kv := h.only k (by simp) (by simp) (by simp)
theorem full_3 {w : World} {db mb : Nat} {d : DS} {kv : Value} {M : Nat} (h : DiskAt w db mb d kv) (hM : sizes d.fs ≤ M) (hM2 : M ≤ 4611686018427387904) (n s : ByteArray) (hi : (aget d.fs n).isSome = true ∨ d.fs.length < 200) (hr : 0 < d.room) :
    Calls Tryz.prog 76 #[.pointer (some ⟨db, 0, none⟩), .string n, .string s] w fun e w' => e = .returned (.bool (decide (d.room - d.used < (s.size : Int)))) ∧ Only [] w w' := by
  have c20 : w.cell? ⟨db, 2, none⟩ = some (.map (some mb)) := h.blk.cell 2
  have hd0 : decide ((0 : Int) < d.room) = true := by simp; omega
  have hroom := h.room
  have hu0 : 0 ≤ d.used := by unfold DS.used; omega
  have hu1 : d.used ≤ 4611686018427387904 := by unfold DS.used; unfold sizes at hM; omega
  have hA : ∀ o1, DiskAt (w.alloc o1) db mb d kv := fun o1 => h.only ((Only.refl [] w).alloc o1) (by simp) (by simp) (by simp)
  have hG : ∀ o1 e os, DiskAt (grow (redrawn (w.alloc o1) e) os) db mb d kv := fun o1 e os => (hA o1).only0 (Only.of_below (below_regrown _ _ _) (Nat.le_refl _))
  have hc1 : ∀ o1 e os, (grow (redrawn (w.alloc o1) e) os).cell? ⟨db, 1, none⟩ = some (.int .i64 d.room) := fun o1 e os => (hG o1 e os).blk.cell 1
  have hc2 : ∀ o1 e os, (grow (redrawn (w.alloc o1) e) os).cell? ⟨db, 2, none⟩ = some (.map (some mb)) := fun o1 e os => (hG o1 e os).blk.cell 2
  have hlen : ∀ o1 e os, (Builtin.len_ #[55] 3 #[.map (some mb)]).run Tryz.prog (grow (redrawn (w.alloc o1) e) os) = .ok (.int .i64 d.fs.length) (grow (redrawn (w.alloc o1) e) os) := fun o1 e os => by
    have := MapIs.len (P := Tryz.prog) Tryz.underlying55 (hG o1 e os).map 3
    simpa using this
  have hU : ∀ o1 e os, Calls Tryz.prog 96 #[.pointer (some ⟨db, 0, none⟩)] (grow (redrawn (w.alloc o1) e) os) fun e' w' => e' = .returned (.int .i64 d.used) ∧ Below (grow (redrawn (w.alloc o1) e) os).heap.size (grow (redrawn (w.alloc o1) e) os) w' :=
    fun o1 e os => (used_any (hG o1 e os) hM hM2).mono fun e' w' ⟨h1, h2⟩ => ⟨h1, h2.toBelow⟩
  have HU := Lib.hid hU
  have hfin : ∀ o1 W2, Below (w.alloc o1).heap.size (w.alloc o1) W2 → Only [] w W2 := fun o1 W2 hb => ((Only.refl [] w).alloc o1).below hb (Nat.le_refl _)
  have hw : wrap64 (d.room - d.used) = d.room - d.used := IntWalk.wrap64_in _ ⟨by omega, by omega⟩
  have HW := Lib.hid hw
  clear hU hM hw
  cases hi1 : (aget d.fs n).isSome
  · have hd : decide ((200 : Int) ≤ (d.fs.length : Int)) = false := by simp [hi1] at hi; simp; omega
    clear hr hi
    go_enter Tryz.func76, Tryz.ntmps76
    go_wp2_with (at_lookup; refine wpList_lookup_ok_is rfl 55 rfl keyEnc_string Tryz.underlying55 Tryz.underlying9 (zeroFile _) n rfl rfl h.map _ _ (getV n) ((isV n).trans hi1) ?_)
    refine wp_region_quiet_below (by kernel_rfl) (by kernel_rfl) ?_
    repeat (go_big_quiet_step ((go_at_call 96; exact Calls.regrown_of (HU.out _ _ _))))
    refine wpQuiet_nil ?_
    rintro _ ⟨p, rfl⟩
    go_wp2
    go_ret
    refine ⟨?_, hfin _ _ (below_regrown _ _ _)⟩
    show Ending.returned (.bool (decide (wrap64 (d.room - d.used) < (s.size : Int)))) = _
    rw [HW.out]
  · clear hr hi
    go_enter Tryz.func76, Tryz.ntmps76
    go_wp2_with (at_lookup; refine wpList_lookup_ok_is rfl 55 rfl keyEnc_string Tryz.underlying55 Tryz.underlying9 (zeroFile _) n rfl rfl h.map _ _ (getV n) ((isV n).trans hi1) ?_)
    refine wp_region_quiet_below (by kernel_rfl) (by kernel_rfl) ?_
    repeat (go_big_quiet_step ((go_at_call 96; exact Calls.regrown_of (HU.out _ _ _))))
    refine wpQuiet_nil ?_
    rintro _ ⟨p, rfl⟩
    go_wp2
    go_ret
    refine ⟨?_, hfin _ _ (below_regrown _ _ _)⟩
    show Ending.returned (.bool (decide (wrap64 (d.room - d.used) < (s.size : Int)))) = _
    rw [HW.out]

theorem full_any {w : World} {db mb : Nat} {d : DS} {kv : Value} {M : Nat} (h : DiskAt w db mb d kv) (hM : sizes d.fs ≤ M) (hM2 : M ≤ 4611686018427387904) (n s : ByteArray) :
    Calls Tryz.prog 76 #[.pointer (some ⟨db, 0, none⟩), .string n, .string s] w fun e w' => e = .returned (.bool (d.full n s.size)) ∧ Only [] w w' := by
  by_cases h1 : (aget d.fs n).isSome = false ∧ 200 ≤ d.fs.length
  · have e : d.full n s.size = true := by simp [DS.full, h1.1, h1.2]
    rw [e]
    exact full_1 h n s h1.1 h1.2
  · have h2 : (aget d.fs n).isSome = true ∨ d.fs.length < 200 := by
      cases hi : (aget d.fs n).isSome
      · right; exact Nat.lt_of_not_le fun q => h1 ⟨hi, q⟩
      · left; rfl
    by_cases h3 : 0 < d.room
    · have e : d.full n s.size = decide (d.room - d.used < (s.size : Int)) := by
        unfold DS.full
        have : (!(aget d.fs n).isSome && decide (200 ≤ d.fs.length)) = false := by
          rcases h2 with q | q
          · simp [q]
          · simp; intro _; omega
        rw [this]
        simp [h3]
      rw [e]
      exact full_3 h hM hM2 n s h2 h3
    · have e : d.full n s.size = false := by
        unfold DS.full
        have : (!(aget d.fs n).isSome && decide (200 ≤ d.fs.length)) = false := by
          rcases h2 with q | q
          · simp [q]
          · simp; intro _; omega
        rw [this]
        simp [h3]
      rw [e]
      exact full_2 h n s h2 (by omega)
end Go.Proofs.YtfjkjndpndjfpaaGreatDoor
/- The sorted keys of a map with texts as keys: slices.Sorted(maps.Keys(m)); names. -/
namespace Go.Proofs.YtfjkjndpndjfpaaGreatDoor
open Go.RowKit Go.MapKept Go.Maps Go.WideMaps
open Go.WideElems (Fit rd rg pl rd_mk rg_of)

/-- How an element reads where nobody looks at it. -/
def blind (_ : Value) : Option (DataW Unit × List MemPlace) := some (.nil, [])
theorem MapIs.owns {P : Program} {k : TypeId} (hk : P.underlying k = some .string) {w : World} {b : Nat} {kv : List (ByteArray × Value)} (h : MapIs Value.string w b kv) (hn : kv.length ≤ maxLen) (hs : ∀ p ∈ kv, p.1.size ≤ maxLen) :
    ∃ D0 : DataW Unit, w.ownsMap P k blind b kv.length D0 ∧ (strKeys D0).Perm (kv.map fun p => p.1.data.toList) ∧ Maps.size D0 = kv.length := by
  obtain ⟨es, clock, hb, hst, hm⟩ := h
  have hl : es.size = kv.length := by have := congrArg List.length hm; simpa using this
  have hx : ∀ x ∈ es.toList, ∃ s : ByteArray, x.key = .string s ∧ s.size ≤ maxLen := by
    intro x hx
    have : (x.key, x.val) ∈ kv.map (fun p => (Value.string p.1, p.2)) := by rw [← hm]; exact List.mem_map.2 ⟨x, hx, rfl⟩
    obtain ⟨p, hp, e⟩ := List.mem_map.1 this
    simp only [Prod.mk.injEq] at e
    exact ⟨p.1, e.1.symm, hs p hp⟩
  have hr : ∀ x ∈ es.toList, ∀ s, x.key = .string s → s.size ≤ maxLen → rg P k blind x = (.string s.data.toList, .nil) := by
    intro x _ s e h1
    have h2 := rd_mk (R := blind) (val := x.val) (born := x.born) (keyOf_string_mk hk h1) (rfl : blind x.val = some (.nil, []))
    rw [← e] at h2
    exact rg_of h2
  refine ⟨_, ⟨es, clock, hb, ⟨by omega, hst, ?_⟩, by omega, rfl⟩, ?_, ?_⟩
  · intro x hx'
    obtain ⟨s, e, h1⟩ := hx x hx'
    refine ⟨(.string s.data.toList, .nil), ?_⟩
    have h2 := rd_mk (R := blind) (val := x.val) (born := x.born) (keyOf_string_mk hk h1) (rfl : blind x.val = some (.nil, []))
    rw [← e] at h2
    exact h2
  · refine ((WideShapes.sorted_perm _).map _).trans ?_
    have e1 : (es.toList.map (rg P k blind)).map (fun p => strOf p.1) = kv.map fun p => p.1.data.toList := by
      apply List.ext_getElem?
      intro i
      have hi := congrArg (fun l => l[i]?) hm
      simp only [List.getElem?_map] at hi ⊢
      cases h1 : es.toList[i]? with
      | none =>
        rw [h1] at hi
        cases h2 : kv[i]? with
        | none => rfl
        | some p => rw [h2] at hi; simp at hi
      | some x =>
        rw [h1] at hi
        cases h2 : kv[i]? with
        | none => rw [h2] at hi; simp at hi
        | some p =>
          rw [h2] at hi
          simp only [Option.map_some, Option.some.injEq, Prod.mk.injEq] at hi
          have hp : p.1.size ≤ maxLen := hs p (List.mem_of_getElem? h2)
          have := hr x (List.mem_of_getElem? h1) p.1 hi.1 hp
          simp [this, strOf]
    rw [e1]
  · show (List.foldr DataW.insert [] (es.toList.map (rg P k blind))).length = _
    rw [(WideShapes.sorted_perm _).length_eq]
    simp [hl]

theorem strs_sorted (l : List (List UInt8)) : (l.map encStr) = strs (l.map fun x => ⟨x.toArray⟩) := by
  simp [strs, encStr]

theorem names_own {w : World} {db mb : Nat} {d : DS} {kv : Value} {M : Nat} (h : DiskAt w db mb d kv) (hk : Fs d.fs M) :
    Calls Tryz.prog 47 #[.pointer (some ⟨db, 0, none⟩)] w fun e w' => ∃ v base, e = .returned v ∧ w'.ownsRow base 9 1 v d.names.length (strs d.names) ∧ w.heap.size ≤ base ∧ Only [] w w' := by
  have c2 : w.cell? ⟨db, 2, none⟩ = some (.map (some mb)) := h.blk.cell 2
  have hlen : (d.fs.map fun p => (p.1, p.2.val)).length = d.fs.length := by simp
  have hf := hk.few
  obtain ⟨D0, hown, hperm, hsz⟩ := h.map.owns (P := Tryz.prog) (k := 9) Tryz.underlying9 (by rw [hlen]; unfold maxLen; omega) (by
    intro p hp
    obtain ⟨q, hq, rfl⟩ := List.mem_map.1 hp
    have := hk.short q hq
    unfold maxLen
    show q.1.size ≤ _
    omega)
  have hc := fun W => callsIn_wide.1 (Tryz.maps_Keys_80 (some mb) W)
  have hs := callsIn_wide.1 (Tryz.slices_Sorted_keys_79_80 mb _ D0 blind w hown (by rw [hsz, hlen]; unfold maxLen; omega) (by rw [hsz, hlen]; omega))
  have HS := Lib.hid hs
  have HC := Lib.hid hc
  clear hs hc
  go_enter Tryz.func47, Tryz.ntmps47
  go_wp2_with (first | (go_at_call 80; refine (HC.out _).mono ?_; rintro e w' ⟨rfl, rfl⟩) | (go_at_call 79; refine (HS.out).mono ?_; rintro e w' ⟨v, ss, rfl, hS, hrow, hnil, hb⟩))
  go_ret
  have e1 : ss.mergeSort (fun x y => decide (x ≤ y)) = (d.fs.map fun p => p.1.data.toList).mergeSort (fun x y => decide (x ≤ y)) := by
    refine mergeSort_of_perm ((hS.trans hperm).trans ?_)
    rw [List.map_map]
    exact List.Perm.refl _
  have e2 : (ss.mergeSort (fun x y => decide (x ≤ y))).map encStr = strs d.names := by
    rw [strs_sorted, e1]
    rfl
  have e3 : ss.length = d.names.length := by
    have := congrArg List.length e2
    simpa [strs] using this
  rw [e2, e3] at hrow
  exact ⟨v, _, rfl, hrow, by simp, ((Only.refl [] w).alloc _).below hb (Nat.le_refl _)⟩
theorem names_any {w : World} {db mb : Nat} {d : DS} {kv : Value} {M : Nat} (h : DiskAt w db mb d kv) (hk : Fs d.fs M) :
    Calls Tryz.prog 47 #[.pointer (some ⟨db, 0, none⟩)] w fun e w' => ∃ v, e = .returned v ∧ Slc w' 1 v d.names.length (strs d.names) ∧ (∀ g, v.ownBlock = some g → w.heap.size ≤ g) ∧ Only [] w w' := by
  refine (names_own h hk).mono fun e w' ⟨v, base, he, hrow, hb, ho⟩ => ⟨v, he, (Slc.of_own hrow).1, fun g hg => ?_, ho⟩
  have := ((Slc.of_own hrow).2 g hg).1
  omega
end Go.Proofs.YtfjkjndpndjfpaaGreatDoor
/- Contract: Crash. -/
namespace Go.Proofs.YtfjkjndpndjfpaaGreatDoor
open Go.RowKit Go.Sort

theorem getV' (fs : Files) (n : ByteArray) : (aget (fs.map fun p => (p.1, p.2.val)) n).getD File.zero.val = .agg #[.string ((aget fs n).getD File.zero).b, .int .i64 ((aget fs n).getD File.zero).lasts, .bool ((aget fs n).getD File.zero).known] := by
  rw [aget_map]
  cases aget fs n <;> rfl

theorem DiskAt.files {w w' : World} {db mb : Nat} {d : DS} {kv : Value} (h : DiskAt w db mb d kv) (ho : Only [mb] w w') (fs' : Files) (hm : MapIs Value.string w' mb (fs'.map fun p => (p.1, p.2.val))) : DiskAt w' db mb { d with fs := fs' } kv :=
  ⟨ho.blk h.blk (by simp; exact fun e => h.ne e.symm), hm, h.slc.only ho (fun g hg => by simp [(h.apart g hg).2]), h.apart, h.left, h.room, fun g hg => Nat.lt_of_lt_of_le (h.old g hg) ho.size⟩
theorem crashAll_drop (fs : Files) (l : List ByteArray) (ks : List Int) (j : Nat) (h : j < l.length) : DS.crashAll fs (l.drop j) (ks.drop j) = DS.crashAll (DS.crashOne fs l[j] (max ((ks.drop j).headD 0) 0)) (l.drop (j + 1)) (ks.drop (j + 1)) := by
  rw [List.drop_eq_getElem_cons h]
  show DS.crashAll _ _ (ks.drop j).tail = _
  rw [List.tail_drop]
theorem lostAll_drop (fs : Files) (l : List ByteArray) (ks : List Int) (j : Nat) (h : j < l.length) : DS.lostAll fs (l.drop j) (ks.drop j) = (((aget fs l[j]).getD File.zero).b.size - (DS.crashFile ((aget fs l[j]).getD File.zero) (max ((ks.drop j).headD 0) 0)).lasts) + DS.lostAll (DS.crashOne fs l[j] (max ((ks.drop j).headD 0) 0)) (l.drop (j + 1)) (ks.drop (j + 1)) := by
  rw [List.drop_eq_getElem_cons h]
  show _ + DS.lostAll _ _ (ks.drop j).tail = _
  rw [List.tail_drop]

theorem crash_off {w : World} {db mb : Nat} {d : DS} {kv v : Value} (h : DiskAt w db mb d kv) (ho : d.on = false) :
    Calls Tryz.prog 20 #[.pointer (some ⟨db, 0, none⟩), v] w fun e w' => e = .returned (.int .i64 0) ∧ w = w' := by
  have c0 : w.cell? ⟨db, 0, none⟩ = some (.bool d.on) := h.blk.cell 0
  rw [ho] at c0
  go_enter Tryz.func20, Tryz.ntmps20
  go_wp2
  go_ret
  exact ⟨rfl, rfl⟩
theorem crash_nil (w : World) (v : Value) :
    Calls Tryz.prog 20 #[.pointer none, v] w fun e w' => e = .returned (.int .i64 0) ∧ w = w' := by
  go_enter Tryz.func20, Tryz.ntmps20
  go_wp2
  go_ret
  exact ⟨rfl, rfl⟩

set_option maxHeartbeats 1000000 in
set_option maxRecDepth 100000 in
theorem crash_on {w : World} {db mb : Nat} {d : DS} {kv v : Value} {keep : List Int} {M : Nat} (h : DiskAt w db mb d kv) (ho : d.on = true) (hk : Fs d.fs M) (hM : M ≤ 1125899906842624)
    (hs : Slc w 1 v keep.length (ints keep)) (hap : ∀ g, v.ownBlock = some g → (g ≠ db ∧ g ≠ mb) ∨ keep = []) :
    Calls Tryz.prog 20 #[.pointer (some ⟨db, 0, none⟩), v] w fun e w' => e = .returned (.int .i64 (DS.lostAll d.fs d.names keep)) ∧ (∃ kv', DiskAt w' db mb (d.crash keep) kv' ∧ (∀ g, kv'.ownBlock = some g → w.heap.size ≤ g)) ∧ Only [db, mb] w w' := by
  have c0 : w.cell? ⟨db, 0, none⟩ = some (.bool d.on) := h.blk.cell 0
  rw [ho] at c0
  have hf0 : FOk M d.fs := hk.fok
  obtain ⟨A1, cap1, rfl, hnc1, hcm1, hl1, hc1⟩ := hs.cell
  go_enter Tryz.func20, Tryz.ntmps20
  go_wp2_with (first | (go_at_call 24; refine (arm_any h (n := -1) (by omega) (Slc.nil _ _) (zs := []) (by simp)).mono ?_; rintro e w1 ⟨rfl, kv1, h1, hf1, ho1⟩) | (go_at_call 47; refine (names_any h1 (M := M) hk).mono ?_; rintro e w2 ⟨v2, rfl, hs2, hf2, ho2⟩; obtain ⟨A2, cap2, hv2, hnc2, hcm2, hl2, hc2⟩ := (show Slc w2 1 v2 d.names.length (strs d.names) from hs2).cell; rw [hv2]))
  have hnl : d.names.length ≤ 200 := by have := hk.few; simpa [DS.names] using this
  have hN : (d.arm (-1) []).names = d.names := rfl
  go_loopw [5, 23] (fun l i wr => ∃ (j : Nat) (lost : Int) (fs : Files), j ≤ d.names.length ∧ i = .int .i64 j ∧ l = .int .i64 lost ∧ 0 ≤ lost ∧ lost ≤ j * M ∧
      Hid (DS.lostAll d.fs d.names keep = lost + DS.lostAll fs (d.names.drop j) (keep.drop j)) ∧ Hid (DS.crashAll d.fs d.names keep = DS.crashAll fs (d.names.drop j) (keep.drop j)) ∧
      FOk M fs ∧ DiskAt wr db mb { d.arm (-1) [] with fs := fs } kv1 ∧ Only [db, mb] w2 wr) (fun _ i _ => d.names.length - (intOf i).toNat)
  case atStart => exact ⟨0, 0, d.fs, Nat.zero_le _, rfl, rfl, by omega, by simp, by unfold Hid; simp, by unfold Hid; simp, hf0, h1.only0 ho2, Only.refl _ _⟩
  case round =>
    obtain ⟨j, lost, fs, hj, rfl, rfl, hl0, hlM, hL, hC, hF, hD, hO⟩ := hrel
    by_cases hlt : j < d.names.length
    case neg =>
      have hjn : j = d.names.length := by omega
      have hl2' : Hid (DS.lostAll d.fs d.names keep = lost) := by have := hL.out; rw [hjn, List.drop_length] at this; unfold Hid; rw [this]; simp [DS.lostAll]
      have hc2' : Hid (DS.crashAll d.fs d.names keep = fs) := by have := hC.out; rw [hjn, List.drop_length] at this; unfold Hid; rw [this]; rfl
      have hW : Only [db, mb] w wr := ((ho1.mono (by simp)).trans (ho2.of_nil)).trans hO
      have f0 : wr.frozen? ⟨db, 0, none⟩ = false := hD.blk.free 0
      have e0 : wr.cell? ⟨db, 0, none⟩ = some (.bool (d.arm (-1) []).on) := hD.blk.cell 0
      clear hjn
      go_wp2
      go_ret
      have hO' : Only [db] wr (wr.setCell ⟨db, 0, none⟩ (.bool false)) := (Only.refl _ wr).setCell (.inl (by simp)) _
      refine ⟨?_, ⟨kv1, ?_, hf1⟩, hW.trans (hO'.mono (by simp))⟩
      · rw [hl2'.out]; rfl
      · have hcr : d.crash keep = { ({ d.arm (-1) [] with fs := fs } : DS) with on := false } := by
          unfold DS.crash
          rw [ho, if_pos rfl, hc2'.out]
          simp [DS.arm]
        rw [hcr]
        refine ⟨hD.blk.set 0 _, hD.map.only hO' (by simp; exact hD.ne), hD.slc.only hO' (fun g hg => by simp [(hD.apart g hg).1]), hD.apart, hD.left, hD.room, fun g hg => Nat.lt_of_lt_of_le (hD.old g hg) hO'.size⟩
    have d2 : wr.cell? ⟨db, 2, none⟩ = some (.map (some mb)) := hD.blk.cell 2
    obtain ⟨b2, off2, hA2, hb2, hc2'⟩ : ∃ b off, A2 = some ⟨b, off, none⟩ ∧ b < w2.heap.size ∧ ∀ j, j < (strs d.names).length → w2.cell? ⟨b, off + j, none⟩ = (strs d.names)[j]? := by
      rcases hc2 with h0 | h0
      · omega
      · exact h0
    subst hA2
    obtain ⟨s, hse⟩ : ∃ s, s = d.names[j] := ⟨_, rfl⟩
    have cs : wr.cell? ⟨b2, off2 + j, none⟩ = some (.string s) := by
      have hg := hf2 b2 (by rw [hv2]; rfl)
      rw [hO.cell hb2 (by have := h1.blk.lt; have := h1.map.lt; simp; omega), hc2' j (by simpa [strs] using hlt), hse]
      simp [strs, hlt]
    have hse' := Lib.hid hse
    clear hse
    obtain ⟨f, hfe⟩ : ∃ f, f = (aget fs s).getD File.zero := ⟨_, rfl⟩
    obtain ⟨hq1, hq2, hq3⟩ := hF.get s
    rw [← hfe] at hq1 hq2 hq3
    have hgv := getV' fs s
    rw [← hfe] at hgv
    have HG := Lib.hid hgv
    have HF := Lib.hid hfe
    clear hgv hfe
    obtain ⟨kk, hkk⟩ : ∃ kk, kk = max ((keep.drop j).headD 0) 0 := ⟨_, rfl⟩
    have hkk0 : 0 ≤ kk := by omega
    have hlb : lost ≤ 225179981368524800 := by
      have : (j : Int) * M ≤ 200 * 1125899906842624 := Int.mul_le_mul (by omega) (by omega) (by omega) (by omega)
      omega
    have hW : Only [db, mb] w wr := ((ho1.mono (by simp)).trans (ho2.of_nil)).trans hO
    obtain ⟨n, hn⟩ : ∃ n, n = f.lasts + min kk (f.b.size - f.lasts) := ⟨_, rfl⟩
    have hn1 : 0 ≤ n := by omega
    have hn2 : n ≤ f.b.size := by omega
    have hns : (f.b.extract 0 n.toNat).size = n.toNat := by simp; omega
    have g2 : ∀ o e os, (grow (redrawn (wr.alloc o).drew e) os).cell? ⟨db, 2, none⟩ = some (.map (some mb)) := fun o e os => cell_regrown ((World.cell?_alloc_lt wr o _ (block_lt_of_cell d2)).trans d2) e os
    have b0 : ∀ x y z t e os, (grow (redrawn (wr.alloc (.cells #[x, y, z] t)).drew e) os).cell? ⟨wr.heap.size, 0, none⟩ = some x := fun x y z t e os => cell_regrown (Blk.cell (Blk.new wr t #[x, y, z]) 0) e os
    have b1' : ∀ x y z t e os, (grow (redrawn (wr.alloc (.cells #[x, y, z] t)).drew e) os).cell? ⟨wr.heap.size, 1, none⟩ = some y := fun x y z t e os => cell_regrown (Blk.cell (Blk.new wr t #[x, y, z]) 1) e os
    have b2' : ∀ x y z t e os, (grow (redrawn (wr.alloc (.cells #[x, y, z] t)).drew e) os).cell? ⟨wr.heap.size, 2, none⟩ = some z := fun x y z t e os => cell_regrown (Blk.cell (Blk.new wr t #[x, y, z]) 2) e os
    have hMW : ∀ o e os, MapIs Value.string (grow (redrawn (wr.alloc o).drew e) os) mb (fvals fs) := fun o e os => hD.map.only (((Only.refl [] wr).alloc o).drew.trans (Only.regrown [] _ e os)) (by simp)
    have hOW : ∀ o e os, Only [mb] wr (grow (redrawn (wr.alloc o).drew e) os) := fun o e os => ((Only.refl [mb] wr).alloc o).drew.trans (Only.regrown [mb] _ e os)
    have hbW : ∀ x y z t e os, Blk (grow (redrawn (wr.alloc (.cells #[x, y, z] t)).drew e) os) wr.heap.size t #[x, y, z] := fun x y z t e os => (Only.regrown [] (wr.alloc (.cells #[x, y, z] t)) e os).blk (Blk.new wr t #[x, y, z]) (by simp)
    have hmw : wr.heap.size ∉ [mb] := by have := hD.map.lt; simp; omega
    have hjM : Hid (((j + 1 : Nat) : Int) * M = j * M + M) := by unfold Hid; rw [Int.natCast_add, Int.add_mul]; simp
    have hcf : DS.crashFile f kk = ⟨f.b.extract 0 n.toNat, n, f.known || decide (0 < n)⟩ := by simp [DS.crashFile, hn]
    have hc1' : DS.crashOne fs s kk = if (f.known || decide (0 < n)) = true then aput fs s ⟨f.b.extract 0 n.toNat, n, f.known || decide (0 < n)⟩ else adel (aput fs s ⟨f.b.extract 0 n.toNat, n, f.known || decide (0 < n)⟩) s := by
      simp only [DS.crashOne, ← HF.out, hcf]
    have hs1 : Hid (DS.lostAll d.fs d.names keep = lost + (f.b.size - n) + DS.lostAll (DS.crashOne fs s kk) (d.names.drop (j + 1)) (keep.drop (j + 1))) := by
      have e := lostAll_drop fs d.names keep j hlt
      rw [← hse'.out, ← hkk, ← HF.out, hcf] at e
      unfold Hid
      rw [hL.out, e]
      simp only []
      omega
    have hs2' : Hid (DS.crashAll d.fs d.names keep = DS.crashAll (DS.crashOne fs s kk) (d.names.drop (j + 1)) (keep.drop (j + 1))) := by
      have e := crashAll_drop fs d.names keep j hlt
      rw [← hse'.out, ← hkk] at e
      unfold Hid
      rw [hC.out, e]
    have hF' : FOk M (DS.crashOne fs s kk) := by
      have h3 : FOk M (aput fs s ⟨f.b.extract 0 n.toNat, n, f.known || decide (0 < n)⟩) := hF.put _ _ ⟨hn1, by show n ≤ ((f.b.extract 0 n.toNat).size : Int); rw [hns]; omega, by show (f.b.extract 0 n.toNat).size ≤ M; rw [hns]; omega⟩
      rw [hc1']
      split
      · exact h3
      · exact h3.del _
    have HN := Lib.hid hn
    have HC1 := Lib.hid hc1'
    clear hn hcf hc1' hns
    by_cases hjk : j < keep.length
    · obtain ⟨b1, off1, rfl, hb1, hcc1⟩ : ∃ b off, A1 = some ⟨b, off, none⟩ ∧ b < w.heap.size ∧ ∀ j, j < (ints keep).length → w.cell? ⟨b, off + j, none⟩ = (ints keep)[j]? := by
        rcases hc1 with h0 | h0
        · omega
        · exact h0
      obtain ⟨z, hz⟩ : ∃ z, z = keep[j] := ⟨_, rfl⟩
      have ck : wr.cell? ⟨b1, off1 + j, none⟩ = some (.int .i64 z) := by
        have hg := (hap b1 rfl).resolve_right (by intro q; rw [q] at hjk; simp at hjk)
        rw [hW.cell hb1 (by simp; exact hg), hcc1 j (by simpa [ints] using hjk), hz]
        simp [ints, hjk]
      have ck1 : ∀ o1, (wr.alloc o1).cell? ⟨b1, off1 + j, none⟩ = some (.int .i64 z) := fun o1 => (World.cell?_alloc_lt wr o1 _ (block_lt_of_cell ck)).trans ck
      have hkz : max z 0 = kk := by rw [hkk, hz, List.headD_eq_head?_getD, List.head?_drop]; simp [hjk]
      have HK := Lib.hid hkz
      have HKK := Lib.hid hkk
      clear hz hkz hkk
      go_wp2_with (at_lookup; refine wpList_lookup_is rfl 55 rfl keyEnc_string Tryz.underlying55 Tryz.underlying9 (zeroFile _) s rfl rfl hD.map _ HG.out ?_)
      rw [HK.out, ← HN.out]
      cases hkn : f.known
      · by_cases h0n : 0 < n
        · have HB : Hid ((f.known || decide (0 < n)) = true) := by unfold Hid; simp [hkn, h0n]
          go_region
          go_wp2
          refine wp_region_btail 6 (by kernel_rfl) (by kernel_rfl) ?_
          simp only [List.take_succ_cons, List.take_zero]
          repeat (go_big_quiet_step (fail))
          refine wpQuiet_nil ?_
          rintro _ ⟨p, rfl⟩
          simp only [List.drop_succ_cons, List.drop_zero]
          refine wpList_update_is rfl 55 rfl keyEnc_string Tryz.underlying55 Tryz.underlying9 s (.agg #[.string (f.b.extract 0 n.toNat), .int .i64 n, .bool true]) rfl rfl rfl (hMW _ p.d p.os) ?_
          intro w5 hm5 hu5
          have hO5 := (hOW _ p.d p.os).trans hu5
          have hb5 := hu5.blk (hbW _ _ _ _ p.d p.os) hmw
          have k5 := hb5.cell 2
          have d5 : w5.cell? ⟨db, 2, none⟩ = some (.map (some mb)) := (hO5.cell (block_lt_of_cell d2) (by simp; exact fun q => h.ne q.symm)).trans d2
          clear hu5
          go_wp2
          have HE : DS.crashOne fs s kk = aput fs s ⟨f.b.extract 0 n.toNat, n, true⟩ := by rw [HC1.out, HB.out, if_pos rfl]
          have HD := hD.files hO5 (DS.crashOne fs s kk) (by rw [HE, aput_map]; exact hm5)
          have HO := hO.trans (hO5.mono (S' := [db, mb]) (by simp))
          clear HE
          go_roundw
          case rel => exact ⟨j + 1, _, _, by omega, by go_num, rfl, by omega, by rw [hjM.out]; omega, hs1, hs2', hF', HD, HO⟩
          case measure => simp [intOf]; omega
        · have HB : Hid ((f.known || decide (0 < n)) = false) := by unfold Hid; rw [hkn]; simp; omega
          go_region
          go_wp2
          refine wp_region_btail 6 (by kernel_rfl) (by kernel_rfl) ?_
          simp only [List.take_succ_cons, List.take_zero]
          repeat (go_big_quiet_step (fail))
          refine wpQuiet_nil ?_
          rintro _ ⟨p, rfl⟩
          simp only [List.drop_succ_cons, List.drop_zero]
          refine wpList_update_is rfl 55 rfl keyEnc_string Tryz.underlying55 Tryz.underlying9 s (.agg #[.string (f.b.extract 0 n.toNat), .int .i64 n, .bool false]) rfl rfl rfl (hMW _ p.d p.os) ?_
          intro w5 hm5 hu5
          have hO5 := (hOW _ p.d p.os).trans hu5
          have hb5 := hu5.blk (hbW _ _ _ _ p.d p.os) hmw
          have k5 := hb5.cell 2
          have d5 : w5.cell? ⟨db, 2, none⟩ = some (.map (some mb)) := (hO5.cell (block_lt_of_cell d2) (by simp; exact fun q => h.ne q.symm)).trans d2
          clear hu5
          go_wp2_with (at_delete; refine wpList_delete_is rfl 55 9 rfl keyEnc_string Tryz.underlying55 Tryz.underlying9 s rfl rfl hm5 ?_; intro w6 hm6 hu6)
          have HE : DS.crashOne fs s kk = adel (aput fs s ⟨f.b.extract 0 n.toNat, n, false⟩) s := by rw [HC1.out, HB.out, if_neg Bool.false_ne_true]
          have HD := hD.files (hO5.trans hu6) (DS.crashOne fs s kk) (by rw [HE, adel_map, aput_map]; exact hm6)
          have HO := hO.trans ((hO5.trans hu6).mono (S' := [db, mb]) (by simp))
          clear HE
          go_roundw
          case rel => exact ⟨j + 1, _, _, by omega, by go_num, rfl, by omega, by rw [hjM.out]; omega, hs1, hs2', hF', HD, HO⟩
          case measure => simp [intOf]; omega
      · have HB : Hid ((f.known || decide (0 < n)) = true) := by unfold Hid; simp [hkn]
        go_region
        go_wp2
        refine wp_region_btail 6 (by kernel_rfl) (by kernel_rfl) ?_
        simp only [List.take_succ_cons, List.take_zero]
        repeat (go_big_quiet_step (fail))
        refine wpQuiet_nil ?_
        rintro _ ⟨p, rfl⟩
        simp only [List.drop_succ_cons, List.drop_zero]
        refine wpList_update_is rfl 55 rfl keyEnc_string Tryz.underlying55 Tryz.underlying9 s (.agg #[.string (f.b.extract 0 n.toNat), .int .i64 n, .bool true]) rfl rfl rfl (hMW _ p.d p.os) ?_
        intro w5 hm5 hu5
        have hO5 := (hOW _ p.d p.os).trans hu5
        have hb5 := hu5.blk (hbW _ _ _ _ p.d p.os) hmw
        have k5 := hb5.cell 2
        have d5 : w5.cell? ⟨db, 2, none⟩ = some (.map (some mb)) := (hO5.cell (block_lt_of_cell d2) (by simp; exact fun q => h.ne q.symm)).trans d2
        clear hu5
        go_wp2
        have HE : DS.crashOne fs s kk = aput fs s ⟨f.b.extract 0 n.toNat, n, true⟩ := by rw [HC1.out, HB.out, if_pos rfl]
        have HD := hD.files hO5 (DS.crashOne fs s kk) (by rw [HE, aput_map]; exact hm5)
        have HO := hO.trans (hO5.mono (S' := [db, mb]) (by simp))
        clear HE
        go_roundw
        case rel => exact ⟨j + 1, _, _, by omega, by go_num, rfl, by omega, by rw [hjM.out]; omega, hs1, hs2', hF', HD, HO⟩
        case measure => simp [intOf]; omega
    · have hkz : kk = 0 := by rw [hkk, List.headD_eq_head?_getD, List.head?_drop]; simp [hjk]
      have HK := Lib.hid hkz
      have HKK := Lib.hid hkk
      clear hkz hkk
      go_wp2_with (at_lookup; refine wpList_lookup_is rfl 55 rfl keyEnc_string Tryz.underlying55 Tryz.underlying9 (zeroFile _) s rfl rfl hD.map _ HG.out ?_)
      rw [show min 0 ((f.b.size : Int) - f.lasts) = min kk ((f.b.size : Int) - f.lasts) from by rw [HK.out], ← HN.out]
      cases hkn : f.known
      · by_cases h0n : 0 < n
        · have HB : Hid ((f.known || decide (0 < n)) = true) := by unfold Hid; simp [hkn, h0n]
          go_region
          go_wp2
          refine wp_region_btail 6 (by kernel_rfl) (by kernel_rfl) ?_
          simp only [List.take_succ_cons, List.take_zero]
          repeat (go_big_quiet_step (fail))
          refine wpQuiet_nil ?_
          rintro _ ⟨p, rfl⟩
          simp only [List.drop_succ_cons, List.drop_zero]
          refine wpList_update_is rfl 55 rfl keyEnc_string Tryz.underlying55 Tryz.underlying9 s (.agg #[.string (f.b.extract 0 n.toNat), .int .i64 n, .bool true]) rfl rfl rfl (hMW _ p.d p.os) ?_
          intro w5 hm5 hu5
          have hO5 := (hOW _ p.d p.os).trans hu5
          have hb5 := hu5.blk (hbW _ _ _ _ p.d p.os) hmw
          have k5 := hb5.cell 2
          have d5 : w5.cell? ⟨db, 2, none⟩ = some (.map (some mb)) := (hO5.cell (block_lt_of_cell d2) (by simp; exact fun q => h.ne q.symm)).trans d2
          clear hu5
          go_wp2
          have HE : DS.crashOne fs s kk = aput fs s ⟨f.b.extract 0 n.toNat, n, true⟩ := by rw [HC1.out, HB.out, if_pos rfl]
          have HD := hD.files hO5 (DS.crashOne fs s kk) (by rw [HE, aput_map]; exact hm5)
          have HO := hO.trans (hO5.mono (S' := [db, mb]) (by simp))
          clear HE
          go_roundw
          case rel => exact ⟨j + 1, _, _, by omega, by go_num, rfl, by omega, by rw [hjM.out]; omega, hs1, hs2', hF', HD, HO⟩
          case measure => simp [intOf]; omega
        · have HB : Hid ((f.known || decide (0 < n)) = false) := by unfold Hid; rw [hkn]; simp; omega
          go_region
          go_wp2
          refine wp_region_btail 6 (by kernel_rfl) (by kernel_rfl) ?_
          simp only [List.take_succ_cons, List.take_zero]
          repeat (go_big_quiet_step (fail))
          refine wpQuiet_nil ?_
          rintro _ ⟨p, rfl⟩
          simp only [List.drop_succ_cons, List.drop_zero]
          refine wpList_update_is rfl 55 rfl keyEnc_string Tryz.underlying55 Tryz.underlying9 s (.agg #[.string (f.b.extract 0 n.toNat), .int .i64 n, .bool false]) rfl rfl rfl (hMW _ p.d p.os) ?_
          intro w5 hm5 hu5
          have hO5 := (hOW _ p.d p.os).trans hu5
          have hb5 := hu5.blk (hbW _ _ _ _ p.d p.os) hmw
          have k5 := hb5.cell 2
          have d5 : w5.cell? ⟨db, 2, none⟩ = some (.map (some mb)) := (hO5.cell (block_lt_of_cell d2) (by simp; exact fun q => h.ne q.symm)).trans d2
          clear hu5
          go_wp2_with (at_delete; refine wpList_delete_is rfl 55 9 rfl keyEnc_string Tryz.underlying55 Tryz.underlying9 s rfl rfl hm5 ?_; intro w6 hm6 hu6)
          have HE : DS.crashOne fs s kk = adel (aput fs s ⟨f.b.extract 0 n.toNat, n, false⟩) s := by rw [HC1.out, HB.out, if_neg Bool.false_ne_true]
          have HD := hD.files (hO5.trans hu6) (DS.crashOne fs s kk) (by rw [HE, adel_map, aput_map]; exact hm6)
          have HO := hO.trans ((hO5.trans hu6).mono (S' := [db, mb]) (by simp))
          clear HE
          go_roundw
          case rel => exact ⟨j + 1, _, _, by omega, by go_num, rfl, by omega, by rw [hjM.out]; omega, hs1, hs2', hF', HD, HO⟩
          case measure => simp [intOf]; omega
      · have HB : Hid ((f.known || decide (0 < n)) = true) := by unfold Hid; simp [hkn]
        go_region
        go_wp2
        refine wp_region_btail 6 (by kernel_rfl) (by kernel_rfl) ?_
        simp only [List.take_succ_cons, List.take_zero]
        repeat (go_big_quiet_step (fail))
        refine wpQuiet_nil ?_
        rintro _ ⟨p, rfl⟩
        simp only [List.drop_succ_cons, List.drop_zero]
        refine wpList_update_is rfl 55 rfl keyEnc_string Tryz.underlying55 Tryz.underlying9 s (.agg #[.string (f.b.extract 0 n.toNat), .int .i64 n, .bool true]) rfl rfl rfl (hMW _ p.d p.os) ?_
        intro w5 hm5 hu5
        have hO5 := (hOW _ p.d p.os).trans hu5
        have hb5 := hu5.blk (hbW _ _ _ _ p.d p.os) hmw
        have k5 := hb5.cell 2
        have d5 : w5.cell? ⟨db, 2, none⟩ = some (.map (some mb)) := (hO5.cell (block_lt_of_cell d2) (by simp; exact fun q => h.ne q.symm)).trans d2
        clear hu5
        go_wp2
        have HE : DS.crashOne fs s kk = aput fs s ⟨f.b.extract 0 n.toNat, n, true⟩ := by rw [HC1.out, HB.out, if_pos rfl]
        have HD := hD.files hO5 (DS.crashOne fs s kk) (by rw [HE, aput_map]; exact hm5)
        have HO := hO.trans (hO5.mono (S' := [db, mb]) (by simp))
        clear HE
        go_roundw
        case rel => exact ⟨j + 1, _, _, by omega, by go_num, rfl, by omega, by rw [hjM.out]; omega, hs1, hs2', hF', HD, HO⟩
        case measure => simp [intOf]; omega

theorem crash_any' {w : World} {db mb : Nat} {d : DS} {kv v : Value} {keep : List Int} {M : Nat} (h : DiskAt w db mb d kv) (hk : Fs d.fs M) (hM : M ≤ 1125899906842624)
    (hs : Slc w 1 v keep.length (ints keep)) (hap : ∀ g, v.ownBlock = some g → (g ≠ db ∧ g ≠ mb) ∨ keep = []) :
    Calls Tryz.prog 20 #[.pointer (some ⟨db, 0, none⟩), v] w fun e w' => e = .returned (.int .i64 (d.lost keep)) ∧ (∃ kv', DiskAt w' db mb (d.crash keep) kv' ∧ (∀ g, kv'.ownBlock = some g → kv.ownBlock = some g ∨ w.heap.size ≤ g)) ∧ Only [db, mb] w w' := by
  cases ho : d.on
  · refine (crash_off h ho).mono fun e w' ⟨h1, h2⟩ => ?_
    subst h2
    have e1 : d.crash keep = d := by simp [DS.crash, ho]
    have e2 : d.lost keep = 0 := by simp [DS.lost, ho]
    rw [e1, e2]
    exact ⟨h1, ⟨kv, h, fun g hg => .inl hg⟩, Only.refl _ _⟩
  · refine (crash_on h ho hk hM hs hap).mono fun e w' ⟨h1, ⟨kv', h2, h3⟩, h4⟩ => ?_
    have e2 : d.lost keep = DS.lostAll d.fs d.names keep := by simp [DS.lost, ho]
    rw [e2]
    exact ⟨h1, ⟨kv', h2, fun g hg => .inr (h3 g hg)⟩, h4⟩
theorem crash_any {w : World} {db mb : Nat} {d : DS} {kv v : Value} {keep : List Int} {M : Nat} (h : DiskAt w db mb d kv) (hk : Fs d.fs M) (hM : M ≤ 1125899906842624)
    (hs : Slc w 1 v keep.length (ints keep)) (hap : ∀ g, v.ownBlock = some g → g ≠ db ∧ g ≠ mb) :
    Calls Tryz.prog 20 #[.pointer (some ⟨db, 0, none⟩), v] w fun e w' => e = .returned (.int .i64 (d.lost keep)) ∧ (∃ kv', DiskAt w' db mb (d.crash keep) kv' ∧ (∀ g, kv'.ownBlock = some g → kv.ownBlock = some g ∨ w.heap.size ≤ g)) ∧ Only [db, mb] w w' :=
  crash_any' h hk hM hs fun g hg => .inl (hap g hg)
end Go.Proofs.YtfjkjndpndjfpaaGreatDoor
/- Contracts: done, Append. -/
namespace Go.Proofs.YtfjkjndpndjfpaaGreatDoor
open Go.RowKit Go.Sort

/-- From w to w' the disk in db has become d; of the slice kept for a crash: it is the one that was, or new. -/
def Leads (db mb : Nat) (w : World) (kv : Value) (w' : World) (d : DS) : Prop :=
  ∃ kv', DiskAt w' db mb d kv' ∧ (∀ g, kv'.ownBlock = some g → kv.ownBlock = some g ∨ w.heap.size ≤ g) ∧ Only [db, mb] w w'
theorem Leads.of {db mb : Nat} {w w' : World} {kv : Value} {d : DS} (h : DiskAt w' db mb d kv) (ho : Only [db, mb] w w') : Leads db mb w kv w' d := ⟨kv, h, fun _ hg => .inl hg, ho⟩
theorem Leads.step {db mb : Nat} {w w1 w' : World} {kv kv1 : Value} {d : DS} (ho : Only [db, mb] w w1) (hk : ∀ g, kv1.ownBlock = some g → kv.ownBlock = some g ∨ w.heap.size ≤ g) (h : Leads db mb w1 kv1 w' d) : Leads db mb w kv w' d := by
  obtain ⟨kv', h1, h2, h3⟩ := h
  refine ⟨kv', h1, fun g hg => ?_, ho.trans h3⟩
  rcases h2 g hg with q | q
  · exact hk g q
  · right; have := ho.size; omega

theorem done_any {w : World} {db mb : Nat} {d : DS} {kv : Value} {M : Nat} (h : DiskAt w db mb d kv) (hk : d.Ok M) (hM : M ≤ 1125899906842624) :
    Calls Tryz.prog 77 #[.pointer (some ⟨db, 0, none⟩)] w fun e w' => e = .returned (.int .i64 d.doneE) ∧ Leads db mb w kv w' d.done := by
  cases hg : d.goes
  · have e1 : d.doneE = 0 := by simp [DS.doneE, hg]
    have e2 : d.done = d.tick := by simp [DS.done, hg]
    rw [e1, e2]
    clear e1 e2
    go_enter Tryz.func77, Tryz.ntmps77
    go_wp2_with (go_at_call 97; refine (goes_any h hk.left).mono ?_; rintro e w1 ⟨rfl, h1, ho1⟩; rw [hg])
    go_ret
    exact ⟨rfl, Leads.of h1 (ho1.mono (by simp))⟩
  · have e1 : d.doneE = 14 := by simp [DS.doneE, hg]
    have e2 : d.done = d.tick.crash d.keep := by simp [DS.done, hg]
    have hF : Fs d.tick.fs M := by rw [DS.tick_fs]; exact hk.fs
    have hleft := h.left
    rw [e1, e2]
    clear e1 e2
    have hs := h.slc
    obtain ⟨A, cap, rfl, _⟩ := hs.cell
    go_enter Tryz.func77, Tryz.ntmps77
    go_wp2_with (first | (go_at_call 97; refine (goes_any h hk.left).mono ?_; rintro e w1 ⟨rfl, h1, ho1⟩; rw [hg]; have c5 : w1.cell? ⟨db, 5, none⟩ = some (.slice A d.keep.length cap) := h1.blk.cell 5) | (go_at_call 20; refine (crash_any h1 hF hM (keep := d.keep) (by have := h1.slc; rw [DS.tick_keep] at this; exact this) h1.apart).mono ?_; rintro e w2 ⟨rfl, ⟨kv2, h2, hk2⟩, ho2⟩))
    go_ret
    refine ⟨rfl, kv2, h2, fun g hg' => ?_, (ho1.mono (by simp)).trans ho2⟩
    rcases hk2 g hg' with q | q
    · exact .inl q
    · right; have := ho1.size; omega

theorem append_may {w : World} {db mb : Nat} {d : DS} {kv : Value} (h : DiskAt w db mb d kv) (n data : ByteArray) (hm : d.may [n] ≠ 0) :
    Calls Tryz.prog 45 #[.pointer (some ⟨db, 0, none⟩), .string n, .string data] w fun e w' => e = .returned (.int .i64 (d.may [n])) ∧ Leads db mb w kv w' d := by
  have hA : ∀ o1, DiskAt (w.alloc o1) db mb d kv := fun o1 => h.only0 ((Only.refl [] w).alloc o1)
  have hm1 : (d.may [n] != 0) = true := by simp [hm]
  clear hm
  go_enter Tryz.func45, Tryz.ntmps45
  go_wp2_with (go_at_call 75; refine (may_any (l := [n]) (hA _) (slc_one (heap_alloc_new _ _))).mono ?_; rintro e w' ⟨rfl, rfl⟩)
  go_ret
  exact ⟨rfl, Leads.of (hA _) ((Only.refl _ w).alloc _)⟩
theorem append_full {w : World} {db mb : Nat} {d : DS} {kv : Value} {M : Nat} (h : DiskAt w db mb d kv) (hk : d.Ok M) (hM : M ≤ 1125899906842624) (n data : ByteArray) (hm : d.may [n] = 0) (hf : d.full n data.size = true) :
    Calls Tryz.prog 45 #[.pointer (some ⟨db, 0, none⟩), .string n, .string data] w fun e w' => e = .returned (.int .i64 20) ∧ Leads db mb w kv w' d := by
  have hA : ∀ o1, DiskAt (w.alloc o1) db mb d kv := fun o1 => h.only0 ((Only.refl [] w).alloc o1)
  have hm1 : (d.may [n] != 0) = false := by simp [hm]
  have HF := Lib.hid hf
  clear hm hf
  go_enter Tryz.func45, Tryz.ntmps45
  go_wp2_with (first | (go_at_call 75; refine (may_any (l := [n]) (hA _) (slc_one (heap_alloc_new _ _))).mono ?_; rintro e w' ⟨rfl, rfl⟩) | (go_at_call 76; refine (full_any (hA _) hk.fs.bytes (by omega) n data).mono ?_; rintro e w' ⟨rfl, ho1⟩; rw [HF.out]))
  go_ret
  exact ⟨rfl, Leads.of ((hA _).only0 ho1) (((Only.refl _ w).alloc _).trans ho1.of_nil)⟩

set_option maxHeartbeats 1000000 in
theorem append_go {w : World} {db mb : Nat} {d : DS} {kv : Value} {M : Nat} (h : DiskAt w db mb d kv) (hk : d.Ok M) (n data : ByteArray) (hM : M + data.size ≤ 1125899906842624) (hm : d.may [n] = 0) (hf : d.full n data.size = false) :
    Calls Tryz.prog 45 #[.pointer (some ⟨db, 0, none⟩), .string n, .string data] w fun e w' => e = .returned (.int .i64 (DS.doneE { d with fs := aput d.fs n { d.get n with b := (d.get n).b ++ data } })) ∧ Leads db mb w kv w' (DS.done { d with fs := aput d.fs n { d.get n with b := (d.get n).b ++ data } }) := by
  have hA : ∀ o1, DiskAt (w.alloc o1) db mb d kv := fun o1 => h.only0 ((Only.refl [] w).alloc o1)
  have hm1 : (d.may [n] != 0) = false := by simp [hm]
  have hns := (DS.may_short hm n (by simp)).2
  have hk2 := hk.appended hm hf
  have HF := Lib.hid hf
  have hg := hk.fs.fok.get n
  have hgs : (d.get n).b.size ≤ M := hg.2.2
  clear hm hf hg
  go_enter Tryz.func45, Tryz.ntmps45
  go_wp2_with (first | (go_at_call 75; refine (may_any (l := [n]) (hA _) (slc_one (heap_alloc_new _ _))).mono ?_; rintro e w' ⟨rfl, rfl⟩) | (go_at_call 76; refine (full_any (hA _) hk.fs.bytes (by omega) n data).mono ?_; rintro e w1 ⟨rfl, ho1⟩; rw [HF.out]; have h1 := (hA _).only0 ho1; have d2' : w1.cell? ⟨db, 2, none⟩ = some (.map (some mb)) := h1.blk.cell 2) | (at_lookup; refine wpList_lookup_is rfl 55 rfl keyEnc_string Tryz.underlying55 Tryz.underlying9 (zeroFile _) n rfl rfl h1.map _ (getV n) ?_))
  have hB := Blk.new w1 75 #[.string ((d.get n).b ++ data), .int .i64 (d.get n).lasts, .bool (d.get n).known]
  have hD := h1.only0 ((Only.refl [] w1).alloc (.cells #[.string ((d.get n).b ++ data), .int .i64 (d.get n).lasts, .bool (d.get n).known] 75))
  have g2 : ∀ (e : Nat) (os : Array Obj), World.cell? (grow (redrawn _ e) os) ⟨db, 2, none⟩ = some (.map (some mb)) := fun e os => cell_regrown (hD.blk.cell 2) e os
  have b0 : ∀ (e : Nat) (os : Array Obj), World.cell? (grow (redrawn _ e) os) ⟨w1.heap.size, 0, none⟩ = some _ := fun e os => cell_regrown (hB.cell 0) e os
  have b1 : ∀ (e : Nat) (os : Array Obj), World.cell? (grow (redrawn _ e) os) ⟨w1.heap.size, 1, none⟩ = some _ := fun e os => cell_regrown (hB.cell 1) e os
  have b2 : ∀ (e : Nat) (os : Array Obj), World.cell? (grow (redrawn _ e) os) ⟨w1.heap.size, 2, none⟩ = some _ := fun e os => cell_regrown (hB.cell 2) e os
  have hMW : ∀ (e : Nat) (os : Array Obj), MapIs Value.string (grow (redrawn _ e) os) mb (fvals d.fs) := fun e os => hD.map.only (Only.regrown [] _ e os) (by simp)
  have hC : ∀ W : World, Calls Tryz.prog 32 #[.string n] W fun e w' => e = .returned (.string n) ∧ Only [] W w' := fun W => strClone_any n W (by omega)
  have HC := Lib.hid hC
  clear hC
  refine wp_region_btail 7 (by kernel_rfl) (by kernel_rfl) ?_
  simp only [List.take_succ_cons, List.take_zero]
  repeat (go_big_quiet_step ((go_at_call 32; exact Calls.regrown_only (HC.out _))))
  refine wpQuiet_nil ?_
  rintro _ ⟨p, rfl⟩
  simp only [List.drop_succ_cons, List.drop_zero]
  refine wpList_update_is rfl 55 rfl keyEnc_string Tryz.underlying55 Tryz.underlying9 n (.agg #[.string ((d.get n).b ++ data), .int .i64 (d.get n).lasts, .bool (d.get n).known]) rfl rfl rfl (hMW p.d p.os) ?_
  intro w5 hm5 hu5
  have hO5 := (Only.regrown [mb] _ p.d p.os).trans hu5
  clear hu5
  have h5 := hD.files hO5 (aput d.fs n { d.get n with b := (d.get n).b ++ data }) (by rw [aput_map]; exact hm5)
  have hw5 : Only [db, mb] w w5 := (((((Only.refl _ w).alloc _).trans ho1.of_nil)).alloc _).trans (hO5.mono (by simp))
  go_wp2_with (go_at_call 77; refine (done_any h5 hk2 hM).mono ?_; rintro e w6 ⟨rfl, h6⟩)
  go_ret
  exact ⟨rfl, Leads.step hw5 (fun g hg => .inl hg) h6⟩

theorem append_any {w : World} {db mb : Nat} {d : DS} {kv : Value} {M : Nat} (h : DiskAt w db mb d kv) (hk : d.Ok M) (n data : ByteArray) (hM : M + data.size ≤ 1125899906842624) :
    Calls Tryz.prog 45 #[.pointer (some ⟨db, 0, none⟩), .string n, .string data] w fun e w' => e = .returned (.int .i64 (d.append n data).1) ∧ Leads db mb w kv w' (d.append n data).2 := by
  unfold DS.append
  by_cases hm : d.may [n] = 0
  · rw [if_neg (by simp [hm])]
    cases hf : d.full n data.size
    · rw [if_neg (by simp)]
      exact append_go h hk n data hM hm hf
    · rw [if_pos rfl]
      exact append_full h hk (by omega) n data hm hf
  · rw [if_pos hm]
    exact append_may h n data hm
theorem append_nil (w : World) (n data : ByteArray) :
    Calls Tryz.prog 45 #[.pointer none, .string n, .string data] w fun e w' => e = .returned (.int .i64 14) ∧ Only [] w w' := by
  go_enter Tryz.func45, Tryz.ntmps45
  go_wp2_with (go_at_call 75; refine (may_nil _).mono ?_; rintro e w' ⟨rfl, rfl⟩)
  go_ret
  exact ⟨rfl, (Only.refl _ w).alloc _⟩
end Go.Proofs.YtfjkjndpndjfpaaGreatDoor
/- Contracts: Sync, Truncate, Rename, Remove. -/
namespace Go.Proofs.YtfjkjndpndjfpaaGreatDoor
open Go.RowKit Go.Sort

theorem find_err {w : World} {db mb : Nat} {d : DS} {kv : Value} (h : DiskAt w db mb d kv) (n : ByteArray) (he : (d.find n).2 ≠ 0) :
    Calls Tryz.prog 78 #[.pointer (some ⟨db, 0, none⟩), .string n] w fun e w' => e = .returned (.tuple #[.agg #[.string ⟨#[]⟩, .int .i64 0, .bool false], .int .i64 (d.find n).2]) ∧ Only [] w w' := by
  have e1 : (d.find n).1 = File.zero := by
    unfold DS.find at *
    split at he
    · split at he
      · exact absurd rfl he
      · rename_i h1 h2; simp [h1, h2]
    · rename_i h1; simp [h1]
  have := find_any h n
  rw [e1] at this
  exact this
theorem find_ok {w : World} {db mb : Nat} {d : DS} {kv : Value} (h : DiskAt w db mb d kv) (n : ByteArray) (he : (d.find n).2 = 0) :
    Calls Tryz.prog 78 #[.pointer (some ⟨db, 0, none⟩), .string n] w fun e w' => e = .returned (.tuple #[.agg #[.string (d.get n).b, .int .i64 (d.get n).lasts, .bool (d.get n).known], .int .i64 0]) ∧ Only [] w w' := by
  have := find_any h n
  rw [(DS.find_is he).2.2] at this
  exact this

theorem find_nilv (w : World) (n : ByteArray) : Calls Tryz.prog 78 #[.pointer none, .string n] w fun e w' => e = .returned (.tuple #[.agg #[.string ⟨#[]⟩, .int .i64 0, .bool false], .int .i64 14]) ∧ Only [] w w' := find_nil w n
theorem find_on {d : DS} {n : ByteArray} (he : (d.find n).2 = 0) : d.on = true := DS.may_on (DS.find_is he).1
theorem doneE_zero {d : DS} (h : d.doneE = 0) : d.done = d.tick ∧ d.done.fs = d.fs := by
  unfold DS.doneE at h
  have hg : d.goes = false := by
    cases hg : d.goes
    · rfl
    · rw [hg] at h; cases h
  have : d.done = d.tick := by simp [DS.done, hg]
  exact ⟨this, by rw [this, DS.tick_fs]⟩

theorem DiskAt.only0' {w w' : World} {db mb : Nat} {d : DS} {kv : Value} {g : Nat} (h : DiskAt w db mb d kv) (k : Only [g] w w') (hn : db ≠ g ∧ mb ≠ g) (hk : ∀ i, kv.ownBlock = some i → i ≠ g) : DiskAt w' db mb d kv :=
  h.only k (by simp; exact hn.1) (by simp; exact hn.2) (fun i hi => by simp; exact hk i hi)

/-! ## Sync -/
theorem sync_err {w : World} {db mb : Nat} {d : DS} {kv : Value} (h : DiskAt w db mb d kv) (n : ByteArray) (he : (d.find n).2 ≠ 0) :
    Calls Tryz.prog 46 #[.pointer (some ⟨db, 0, none⟩), .string n] w fun e w' => e = .returned (.int .i64 (d.find n).2) ∧ Leads db mb w kv w' d := by
  have hc := find_err h n he
  have HC := Lib.hid hc
  have he1 : ((d.find n).2 != 0) = true := by simp [he]
  clear hc he
  go_enter Tryz.func46, Tryz.ntmps46
  go_wp2_with (go_at_call 78; refine HC.out.mono ?_; rintro e w1 ⟨rfl, ho1⟩)
  go_ret
  exact ⟨rfl, Leads.of ((h.only0 ho1).only0 ((Only.refl [] w1).alloc _)) (ho1.of_nil.alloc _)⟩
theorem sync_down {w : World} {db mb : Nat} {d : DS} {kv : Value} {M : Nat} (h : DiskAt w db mb d kv) (hk : d.Ok M) (hM : M ≤ 1125899906842624) (n : ByteArray) (he : (d.find n).2 = 0) (hd : d.doneE ≠ 0) :
    Calls Tryz.prog 46 #[.pointer (some ⟨db, 0, none⟩), .string n] w fun e w' => e = .returned (.int .i64 d.doneE) ∧ Leads db mb w kv w' d.done := by
  have hc := find_ok h n he
  have HC := Lib.hid hc
  have he1 : (d.doneE != 0) = true := by simp [hd]
  clear hc he hd
  go_enter Tryz.func46, Tryz.ntmps46
  go_wp2_with (first | (go_at_call 78; refine HC.out.mono ?_; rintro e w1 ⟨rfl, ho1⟩) | (go_at_call 77; refine (done_any ((h.only0 ho1).only0 ((Only.refl [] w1).alloc _)) hk hM).mono ?_; rintro e w2 ⟨rfl, h2⟩))
  go_ret
  exact ⟨rfl, Leads.step (ho1.of_nil.alloc _) (fun g hg => .inl hg) h2⟩
set_option maxHeartbeats 1000000 in
theorem sync_go {w : World} {db mb : Nat} {d : DS} {kv : Value} {M : Nat} (h : DiskAt w db mb d kv) (hk : d.Ok M) (hM : M ≤ 1125899906842624) (n : ByteArray) (he : (d.find n).2 = 0) (hd : d.doneE = 0) :
    Calls Tryz.prog 46 #[.pointer (some ⟨db, 0, none⟩), .string n] w fun e w' => e = .returned (.int .i64 0) ∧ Leads db mb w kv w' { d.done with fs := aput d.done.fs n ⟨(d.get n).b, (d.get n).b.size, true⟩ } := by
  have hc := find_ok h n he
  have HC := Lib.hid hc
  have he1 : (d.doneE != 0) = false := by simp [hd]
  clear hc he
  have hgs : (d.get n).b.size ≤ M := (hk.fs.fok.get n).2.2
  have hz : ∀ W, DiskAt W db mb d kv → Calls Tryz.prog 77 #[.pointer (some ⟨db, 0, none⟩)] W fun e w' => e = .returned (.int .i64 0) ∧ Leads db mb W kv w' d.done := fun W hW => by
    have := done_any hW hk hM
    rw [hd] at this
    exact this
  have HZ := Lib.hid hz
  clear hz hd he1
  go_enter Tryz.func46, Tryz.ntmps46
  go_wp2_with (first | (go_at_call 78; refine HC.out.mono ?_; rintro e w1 ⟨rfl, ho1⟩; have hb1 := fun o : Obj => (Only.refl [] w1).alloc o) | (go_at_call 77; refine (HZ.out _ ((h.only0 ho1).only0 (hb1 _))).mono ?_; rintro e w2 ⟨rfl, kv2, h2, hk2, ho2⟩; have hn1 : w1.heap.size ∉ [db, mb] := (by have q1 := (h.only0 ho1).blk.lt; have q2 := (h.only0 ho1).map.lt; simp; omega); have hbx := ho2.blk (Blk.new w1 75 #[.string (d.get n).b, .int .i64 (d.get n).lasts, .bool (d.get n).known]) hn1; have k0 := hbx.cell 0; have k1 := hbx.cell 1; have k2 := hbx.cell 2; have f0 := hbx.free 0; have f1 := hbx.free 1; have f2 := hbx.free 2; have d2 : w2.cell? ⟨db, 2, none⟩ = some (.map (some mb)) := h2.blk.cell 2))
  have hw2 : Only [db, mb] w w2 := (ho1.of_nil.alloc _).trans ho2
  have hn2 : db ≠ w1.heap.size ∧ mb ≠ w1.heap.size := by simp at hn1; exact ⟨fun q => hn1.1 q.symm, fun q => hn1.2 q.symm⟩
  have hk2' : ∀ g, kv2.ownBlock = some g → g ≠ w1.heap.size := by
    intro g hg
    rcases hk2 g hg with q | q
    · have := h.old g q
      have := ho1.size
      omega
    · simp at q; omega
  have hk2f : ∀ g, kv2.ownBlock = some g → kv.ownBlock = some g ∨ w.heap.size ≤ g := by
    intro g hg
    rcases hk2 g hg with q | q
    · exact .inl q
    · right; simp at q; have := ho1.size; omega
  have hB := (hbx.set 1 (.int .i64 (d.get n).b.size)).set 2 (.bool true)
  have hD := h2.only0' (((Only.refl [w1.heap.size] w2).setCell (p := ⟨w1.heap.size, 1, none⟩) (.inl (by simp)) (.int .i64 (d.get n).b.size)).setCell (p := ⟨w1.heap.size, 2, none⟩) (.inl (by simp)) (.bool true)) hn2 hk2'
  have g2 : ∀ (e : Nat) (os : Array Obj), World.cell? (grow (redrawn _ e) os) ⟨db, 2, none⟩ = some (.map (some mb)) := fun e os => cell_regrown (hD.blk.cell 2) e os
  have b0 : ∀ (e : Nat) (os : Array Obj), World.cell? (grow (redrawn _ e) os) ⟨w1.heap.size, 0, none⟩ = some _ := fun e os => cell_regrown (hB.cell 0) e os
  have b1 : ∀ (e : Nat) (os : Array Obj), World.cell? (grow (redrawn _ e) os) ⟨w1.heap.size, 1, none⟩ = some _ := fun e os => cell_regrown (hB.cell 1) e os
  have b2 : ∀ (e : Nat) (os : Array Obj), World.cell? (grow (redrawn _ e) os) ⟨w1.heap.size, 2, none⟩ = some _ := fun e os => cell_regrown (hB.cell 2) e os
  have hMW : ∀ (e : Nat) (os : Array Obj), MapIs Value.string (grow (redrawn _ e) os) mb (fvals d.done.fs) := fun e os => hD.map.only (Only.regrown [] _ e os) (by simp)
  refine wp_region_btail 6 (by kernel_rfl) (by kernel_rfl) ?_
  simp only [List.take_succ_cons, List.take_zero]
  repeat (go_big_quiet_step (fail))
  refine wpQuiet_nil ?_
  rintro _ ⟨p, rfl⟩
  simp only [List.drop_succ_cons, List.drop_zero]
  refine wpList_update_is rfl 55 rfl keyEnc_string Tryz.underlying55 Tryz.underlying9 n (.agg #[.string (d.get n).b, .int .i64 (d.get n).b.size, .bool true]) rfl rfl rfl (hMW p.d p.os) ?_
  intro w5 hm5 hu5
  have hO5 := (Only.regrown [mb] _ p.d p.os).trans hu5
  clear hu5
  go_wp2
  go_ret
  refine ⟨rfl, kv2, hD.files hO5 (aput d.done.fs n ⟨(d.get n).b, (d.get n).b.size, true⟩) (by rw [aput_map]; exact hm5), hk2f, ?_⟩
  exact (hw2.step (((Only.refl [w1.heap.size] w2).setCell (p := ⟨w1.heap.size, 1, none⟩) (.inl (by simp)) (.int .i64 (d.get n).b.size)).setCell (p := ⟨w1.heap.size, 2, none⟩) (.inl (by simp)) (.bool true)) (by simp; right; have := ho1.size; omega)).trans (hO5.mono (by simp))
end Go.Proofs.YtfjkjndpndjfpaaGreatDoor
/- Contracts: Remove, Rename, Truncate. -/
namespace Go.Proofs.YtfjkjndpndjfpaaGreatDoor
open Go.RowKit Go.Sort

theorem sync_any {w : World} {db mb : Nat} {d : DS} {kv : Value} {M : Nat} (h : DiskAt w db mb d kv) (hk : d.Ok M) (hM : M ≤ 1125899906842624) (n : ByteArray) :
    Calls Tryz.prog 46 #[.pointer (some ⟨db, 0, none⟩), .string n] w fun e w' => e = .returned (.int .i64 (d.sync n).1) ∧ Leads db mb w kv w' (d.sync n).2 := by
  unfold DS.sync
  by_cases he : (d.find n).2 = 0
  · rw [if_neg (by simp [he])]
    by_cases hd : d.doneE = 0
    · rw [if_neg (by simp [hd])]
      exact sync_go h hk hM n he hd
    · rw [if_pos hd]
      exact sync_down h hk hM n he hd
  · rw [if_pos he]
    exact sync_err h n he
theorem sync_nil (w : World) (n : ByteArray) :
    Calls Tryz.prog 46 #[.pointer none, .string n] w fun e w' => e = .returned (.int .i64 14) ∧ Only [] w w' := by
  go_enter Tryz.func46, Tryz.ntmps46
  go_wp2_with (go_at_call 78; refine (find_nilv _ _).mono ?_; rintro e w1 ⟨rfl, ho1⟩)
  go_ret
  exact ⟨rfl, ho1.alloc _⟩

/-! ## Remove -/
theorem remove_err {w : World} {db mb : Nat} {d : DS} {kv : Value} (h : DiskAt w db mb d kv) (n : ByteArray) (he : (d.find n).2 ≠ 0) :
    Calls Tryz.prog 49 #[.pointer (some ⟨db, 0, none⟩), .string n] w fun e w' => e = .returned (.int .i64 (d.find n).2) ∧ Leads db mb w kv w' d := by
  have hc := find_err h n he
  have HC := Lib.hid hc
  have he1 : ((d.find n).2 != 0) = true := by simp [he]
  clear hc he
  go_enter Tryz.func49, Tryz.ntmps49
  go_wp2_with (go_at_call 78; refine HC.out.mono ?_; rintro e w1 ⟨rfl, ho1⟩)
  go_ret
  exact ⟨rfl, Leads.of ((h.only0 ho1).only0 ((Only.refl [] w1).alloc _)) (ho1.of_nil.alloc _)⟩
theorem remove_down {w : World} {db mb : Nat} {d : DS} {kv : Value} {M : Nat} (h : DiskAt w db mb d kv) (hk : d.Ok M) (hM : M ≤ 1125899906842624) (n : ByteArray) (he : (d.find n).2 = 0) (hd : d.doneE ≠ 0) :
    Calls Tryz.prog 49 #[.pointer (some ⟨db, 0, none⟩), .string n] w fun e w' => e = .returned (.int .i64 d.doneE) ∧ Leads db mb w kv w' d.done := by
  have hc := find_ok h n he
  have HC := Lib.hid hc
  have he1 : (d.doneE != 0) = true := by simp [hd]
  clear hc he hd
  go_enter Tryz.func49, Tryz.ntmps49
  go_wp2_with (first | (go_at_call 78; refine HC.out.mono ?_; rintro e w1 ⟨rfl, ho1⟩) | (go_at_call 77; refine (done_any ((h.only0 ho1).only0 ((Only.refl [] w1).alloc _)) hk hM).mono ?_; rintro e w2 ⟨rfl, h2⟩))
  go_ret
  exact ⟨rfl, Leads.step (ho1.of_nil.alloc _) (fun g hg => .inl hg) h2⟩
theorem remove_go {w : World} {db mb : Nat} {d : DS} {kv : Value} {M : Nat} (h : DiskAt w db mb d kv) (hk : d.Ok M) (hM : M ≤ 1125899906842624) (n : ByteArray) (he : (d.find n).2 = 0) (hd : d.doneE = 0) :
    Calls Tryz.prog 49 #[.pointer (some ⟨db, 0, none⟩), .string n] w fun e w' => e = .returned (.int .i64 0) ∧ Leads db mb w kv w' { d.done with fs := adel d.done.fs n } := by
  have hc := find_ok h n he
  have HC := Lib.hid hc
  clear hc he
  have hgs : (d.get n).b.size ≤ M := (hk.fs.fok.get n).2.2
  have hz : ∀ W, DiskAt W db mb d kv → Calls Tryz.prog 77 #[.pointer (some ⟨db, 0, none⟩)] W fun e w' => e = .returned (.int .i64 0) ∧ Leads db mb W kv w' d.done := fun W hW => by
    have := done_any hW hk hM
    rw [hd] at this
    exact this
  have HZ := Lib.hid hz
  clear hz hd
  go_enter Tryz.func49, Tryz.ntmps49
  go_wp2_with (first | (go_at_call 78; refine HC.out.mono ?_; rintro e w1 ⟨rfl, ho1⟩; have hb1 := fun o : Obj => (Only.refl [] w1).alloc o) | (go_at_call 77; refine (HZ.out _ ((h.only0 ho1).only0 (hb1 _))).mono ?_; rintro e w2 ⟨rfl, kv2, h2, hk2, ho2⟩; have hn1 : w1.heap.size ∉ [db, mb] := (by have q1 := (h.only0 ho1).blk.lt; have q2 := (h.only0 ho1).map.lt; simp; omega); have hbx := ho2.blk (Blk.new w1 75 #[.string (d.get n).b, .int .i64 (d.get n).lasts, .bool (d.get n).known]) hn1; have k0 := hbx.cell 0; have k1 := hbx.cell 1; have k2 := hbx.cell 2; have f0 := hbx.free 0; have f1 := hbx.free 1; have f2 := hbx.free 2; have d2 : w2.cell? ⟨db, 2, none⟩ = some (.map (some mb)) := h2.blk.cell 2)| (at_delete; refine wpList_delete_is rfl 55 9 rfl keyEnc_string Tryz.underlying55 Tryz.underlying9 n rfl rfl h2.map ?_; intro w5 hm5 hu5))
  have hw2 : Only [db, mb] w w2 := (ho1.of_nil.alloc _).trans ho2
  have hn2 : db ≠ w1.heap.size ∧ mb ≠ w1.heap.size := by simp at hn1; exact ⟨fun q => hn1.1 q.symm, fun q => hn1.2 q.symm⟩
  have hk2' : ∀ g, kv2.ownBlock = some g → g ≠ w1.heap.size := by
    intro g hg
    rcases hk2 g hg with q | q
    · have := h.old g q
      have := ho1.size
      omega
    · simp at q; omega
  have hk2f : ∀ g, kv2.ownBlock = some g → kv.ownBlock = some g ∨ w.heap.size ≤ g := by
    intro g hg
    rcases hk2 g hg with q | q
    · exact .inl q
    · right; simp at q; have := ho1.size; omega
  go_ret
  exact ⟨rfl, kv2, h2.files hu5 (adel d.done.fs n) (by rw [adel_map]; exact hm5), hk2f, hw2.trans (hu5.mono (by simp))⟩
theorem remove_any {w : World} {db mb : Nat} {d : DS} {kv : Value} {M : Nat} (h : DiskAt w db mb d kv) (hk : d.Ok M) (hM : M ≤ 1125899906842624) (n : ByteArray) :
    Calls Tryz.prog 49 #[.pointer (some ⟨db, 0, none⟩), .string n] w fun e w' => e = .returned (.int .i64 (d.remove n).1) ∧ Leads db mb w kv w' (d.remove n).2 := by
  unfold DS.remove
  by_cases he : (d.find n).2 = 0
  · rw [if_neg (by simp [he])]
    by_cases hd : d.doneE = 0
    · rw [if_neg (by simp [hd])]
      exact remove_go h hk hM n he hd
    · rw [if_pos hd]
      exact remove_down h hk hM n he hd
  · rw [if_pos he]
    exact remove_err h n he
theorem remove_nil (w : World) (n : ByteArray) :
    Calls Tryz.prog 49 #[.pointer none, .string n] w fun e w' => e = .returned (.int .i64 14) ∧ Only [] w w' := by
  go_enter Tryz.func49, Tryz.ntmps49
  go_wp2_with (go_at_call 78; refine (find_nilv _ _).mono ?_; rintro e w1 ⟨rfl, ho1⟩)
  go_ret
  exact ⟨rfl, ho1.alloc _⟩

/-! ## Truncate -/
theorem truncate_err {w : World} {db mb : Nat} {d : DS} {kv : Value} (h : DiskAt w db mb d kv) (n : ByteArray) (k : Int) (he : (d.find n).2 ≠ 0) :
    Calls Tryz.prog 84 #[.pointer (some ⟨db, 0, none⟩), .string n, .int .i64 k] w fun e w' => e = .returned (.int .i64 (d.find n).2) ∧ Leads db mb w kv w' d := by
  have hc := find_err h n he
  have HC := Lib.hid hc
  have he1 : ((d.find n).2 != 0) = true := by simp [he]
  clear hc he
  go_enter Tryz.func84, Tryz.ntmps84
  go_wp2_with (go_at_call 78; refine HC.out.mono ?_; rintro e w1 ⟨rfl, ho1⟩)
  go_ret
  exact ⟨rfl, Leads.of ((h.only0 ho1).only0 ((Only.refl [] w1).alloc _)) (ho1.of_nil.alloc _)⟩
theorem truncate_range {w : World} {db mb : Nat} {d : DS} {kv : Value} (h : DiskAt w db mb d kv) (n : ByteArray) (k : Int) (he : (d.find n).2 = 0) (hr : k < 0 ∨ (d.get n).b.size < k) :
    Calls Tryz.prog 84 #[.pointer (some ⟨db, 0, none⟩), .string n, .int .i64 k] w fun e w' => e = .returned (.int .i64 15) ∧ Leads db mb w kv w' d := by
  have hc := find_ok h n he
  have HC := Lib.hid hc
  clear hc he
  by_cases h0 : k < 0
  · clear hr
    go_enter Tryz.func84, Tryz.ntmps84
    go_wp2_with (go_at_call 78; refine HC.out.mono ?_; rintro e w1 ⟨rfl, ho1⟩)
    go_ret
    exact ⟨rfl, Leads.of ((h.only0 ho1).only0 ((Only.refl [] w1).alloc _)) (ho1.of_nil.alloc _)⟩
  · have h1 : (d.get n).b.size < k := by omega
    clear hr
    go_enter Tryz.func84, Tryz.ntmps84
    go_wp2_with (go_at_call 78; refine HC.out.mono ?_; rintro e w1 ⟨rfl, ho1⟩)
    go_ret
    exact ⟨rfl, Leads.of ((h.only0 ho1).only0 ((Only.refl [] w1).alloc _)) (ho1.of_nil.alloc _)⟩
theorem truncate_down {w : World} {db mb : Nat} {d : DS} {kv : Value} {M : Nat} (h : DiskAt w db mb d kv) (hk : d.Ok M) (hM : M ≤ 1125899906842624) (n : ByteArray) (k : Int) (he : (d.find n).2 = 0) (h0 : 0 ≤ k) (h1 : k ≤ (d.get n).b.size) (hd : d.doneE ≠ 0) :
    Calls Tryz.prog 84 #[.pointer (some ⟨db, 0, none⟩), .string n, .int .i64 k] w fun e w' => e = .returned (.int .i64 d.doneE) ∧ Leads db mb w kv w' d.done := by
  have hc := find_ok h n he
  have HC := Lib.hid hc
  have he1 : (d.doneE != 0) = true := by simp [hd]
  clear hc he hd
  go_enter Tryz.func84, Tryz.ntmps84
  go_wp2_with (first | (go_at_call 78; refine HC.out.mono ?_; rintro e w1 ⟨rfl, ho1⟩) | (go_at_call 77; refine (done_any ((h.only0 ho1).only0 ((Only.refl [] w1).alloc _)) hk hM).mono ?_; rintro e w2 ⟨rfl, h2⟩))
  go_ret
  exact ⟨rfl, Leads.step (ho1.of_nil.alloc _) (fun g hg => .inl hg) h2⟩
set_option maxHeartbeats 1000000 in
theorem truncate_go {w : World} {db mb : Nat} {d : DS} {kv : Value} {M : Nat} (h : DiskAt w db mb d kv) (hk : d.Ok M) (hM : M ≤ 1125899906842624) (n : ByteArray) (k : Int) (he : (d.find n).2 = 0) (h0 : 0 ≤ k) (h1 : k ≤ (d.get n).b.size) (hd : d.doneE = 0) :
    Calls Tryz.prog 84 #[.pointer (some ⟨db, 0, none⟩), .string n, .int .i64 k] w fun e w' => e = .returned (.int .i64 0) ∧ Leads db mb w kv w' { d.done with fs := aput d.done.fs n ⟨(d.get n).b.extract 0 k.toNat, min (d.get n).lasts k, (d.get n).known⟩ } := by
  have hc := find_ok h n he
  have HC := Lib.hid hc
  clear hc he
  have hgs : (d.get n).b.size ≤ M := (hk.fs.fok.get n).2.2
  have hz : ∀ W, DiskAt W db mb d kv → Calls Tryz.prog 77 #[.pointer (some ⟨db, 0, none⟩)] W fun e w' => e = .returned (.int .i64 0) ∧ Leads db mb W kv w' d.done := fun W hW => by
    have := done_any hW hk hM
    rw [hd] at this
    exact this
  have HZ := Lib.hid hz
  clear hz hd
  go_enter Tryz.func84, Tryz.ntmps84
  go_wp2_with (first | (go_at_call 78; refine HC.out.mono ?_; rintro e w1 ⟨rfl, ho1⟩; have hb1 := fun o : Obj => (Only.refl [] w1).alloc o) | (go_at_call 77; refine (HZ.out _ ((h.only0 ho1).only0 (hb1 _))).mono ?_; rintro e w2 ⟨rfl, kv2, h2, hk2, ho2⟩; have hn1 : w1.heap.size ∉ [db, mb] := (by have q1 := (h.only0 ho1).blk.lt; have q2 := (h.only0 ho1).map.lt; simp; omega); have hbx := ho2.blk (Blk.new w1 75 #[.string (d.get n).b, .int .i64 (d.get n).lasts, .bool (d.get n).known]) hn1; have k0 := hbx.cell 0; have k1 := hbx.cell 1; have k2 := hbx.cell 2; have f0 := hbx.free 0; have f1 := hbx.free 1; have f2 := hbx.free 2; have d2 : w2.cell? ⟨db, 2, none⟩ = some (.map (some mb)) := h2.blk.cell 2))
  have hw2 : Only [db, mb] w w2 := (ho1.of_nil.alloc _).trans ho2
  have hn2 : db ≠ w1.heap.size ∧ mb ≠ w1.heap.size := by simp at hn1; exact ⟨fun q => hn1.1 q.symm, fun q => hn1.2 q.symm⟩
  have hk2' : ∀ g, kv2.ownBlock = some g → g ≠ w1.heap.size := by
    intro g hg
    rcases hk2 g hg with q | q
    · have := h.old g q
      have := ho1.size
      omega
    · simp at q; omega
  have hk2f : ∀ g, kv2.ownBlock = some g → kv.ownBlock = some g ∨ w.heap.size ≤ g := by
    intro g hg
    rcases hk2 g hg with q | q
    · exact .inl q
    · right; simp at q; have := ho1.size; omega
  go_region
  go_wp2
  have hT : Only [w1.heap.size] w2 (((w2.setCell ⟨w1.heap.size, 0, none⟩ (.string ((d.get n).b.extract 0 k.toNat))).setCell ⟨w1.heap.size, 1, none⟩ (.int .i64 (min (d.get n).lasts k))).drew) :=
    (((Only.refl [w1.heap.size] w2).setCell (p := ⟨w1.heap.size, 0, none⟩) (.inl (by simp)) _).setCell (p := ⟨w1.heap.size, 1, none⟩) (.inl (by simp)) _).drew
  have hB : Blk (((w2.setCell ⟨w1.heap.size, 0, none⟩ (.string ((d.get n).b.extract 0 k.toNat))).setCell ⟨w1.heap.size, 1, none⟩ (.int .i64 (min (d.get n).lasts k))).drew) w1.heap.size 75 #[.string ((d.get n).b.extract 0 k.toNat), .int .i64 (min (d.get n).lasts k), .bool (d.get n).known] := (hbx.set 0 _).set 1 _
  have hD := h2.only0' hT hn2 hk2'
  have g2 : ∀ (e : Nat) (os : Array Obj), World.cell? (grow (redrawn _ e) os) ⟨db, 2, none⟩ = some (.map (some mb)) := fun e os => cell_regrown (hD.blk.cell 2) e os
  have b0 : ∀ (e : Nat) (os : Array Obj), World.cell? (grow (redrawn _ e) os) ⟨w1.heap.size, 0, none⟩ = some _ := fun e os => cell_regrown (hB.cell 0) e os
  have b1 : ∀ (e : Nat) (os : Array Obj), World.cell? (grow (redrawn _ e) os) ⟨w1.heap.size, 1, none⟩ = some _ := fun e os => cell_regrown (hB.cell 1) e os
  have b2 : ∀ (e : Nat) (os : Array Obj), World.cell? (grow (redrawn _ e) os) ⟨w1.heap.size, 2, none⟩ = some _ := fun e os => cell_regrown (hB.cell 2) e os
  have hMW : ∀ (e : Nat) (os : Array Obj), MapIs Value.string (grow (redrawn _ e) os) mb (fvals d.done.fs) := fun e os => hD.map.only (Only.regrown [] _ e os) (by simp)
  refine wp_region_btail 6 (by kernel_rfl) (by kernel_rfl) ?_
  simp only [List.take_succ_cons, List.take_zero]
  repeat (go_big_quiet_step (fail))
  refine wpQuiet_nil ?_
  rintro _ ⟨p, rfl⟩
  simp only [List.drop_succ_cons, List.drop_zero]
  refine wpList_update_is rfl 55 rfl keyEnc_string Tryz.underlying55 Tryz.underlying9 n (.agg #[.string ((d.get n).b.extract 0 k.toNat), .int .i64 (min (d.get n).lasts k), .bool (d.get n).known]) rfl rfl rfl (hMW p.d p.os) ?_
  intro w5 hm5 hu5
  have hO5 := (Only.regrown [mb] _ p.d p.os).trans hu5
  clear hu5
  go_wp2
  go_ret
  refine ⟨rfl, kv2, hD.files hO5 (aput d.done.fs n ⟨(d.get n).b.extract 0 k.toNat, min (d.get n).lasts k, (d.get n).known⟩) (by rw [aput_map]; exact hm5), hk2f, ?_⟩
  exact (hw2.step hT (by simp; right; have := ho1.size; omega)).trans (hO5.mono (by simp))
end Go.Proofs.YtfjkjndpndjfpaaGreatDoor
/- Contracts: Rename. -/
namespace Go.Proofs.YtfjkjndpndjfpaaGreatDoor
open Go.RowKit Go.Sort

theorem truncate_any {w : World} {db mb : Nat} {d : DS} {kv : Value} {M : Nat} (h : DiskAt w db mb d kv) (hk : d.Ok M) (hM : M ≤ 1125899906842624) (n : ByteArray) (k : Int) :
    Calls Tryz.prog 84 #[.pointer (some ⟨db, 0, none⟩), .string n, .int .i64 k] w fun e w' => e = .returned (.int .i64 (d.truncate n k).1) ∧ Leads db mb w kv w' (d.truncate n k).2 := by
  unfold DS.truncate
  by_cases he : (d.find n).2 = 0
  · rw [if_neg (by simp [he])]
    by_cases hr : k < 0 ∨ (d.get n).b.size < k
    · rw [if_pos hr]
      exact truncate_range h n k he hr
    · rw [if_neg hr]
      by_cases hd : d.doneE = 0
      · rw [if_neg (by simp [hd])]
        exact truncate_go h hk hM n k he (by omega) (by omega) hd
      · rw [if_pos hd]
        exact truncate_down h hk hM n k he (by omega) (by omega) hd
  · rw [if_pos he]
    exact truncate_err h n k he
theorem truncate_nil (w : World) (n : ByteArray) (k : Int) :
    Calls Tryz.prog 84 #[.pointer none, .string n, .int .i64 k] w fun e w' => e = .returned (.int .i64 14) ∧ Only [] w w' := by
  go_enter Tryz.func84, Tryz.ntmps84
  go_wp2_with (go_at_call 78; refine (find_nilv _ _).mono ?_; rintro e w1 ⟨rfl, ho1⟩)
  go_ret
  exact ⟨rfl, ho1.alloc _⟩

theorem slc_two {w : World} {g : Nat} {s t : ByteArray} {e : TypeId} (h : w.heap[g]? = some (.cells #[.string s, .string t] e (0, 0))) : Slc w 1 (.slice (some ⟨g, 0, none⟩) 2 2) [s, t].length (strs [s, t]) :=
  ⟨_, _, rfl, rfl, Nat.le_refl _, by unfold maxLen; omega, fun _ => ⟨_, 0, rfl, lt_of_block h, fun j hj => by
    rw [Nat.zero_add, cell_of_row _ _ _ _ _ _ h]
    simp [strs]⟩⟩

theorem rename_may {w : World} {db mb : Nat} {d : DS} {kv : Value} (h : DiskAt w db mb d kv) (m n : ByteArray) (hm : d.may [m, n] ≠ 0) :
    Calls Tryz.prog 55 #[.pointer (some ⟨db, 0, none⟩), .string m, .string n] w fun e w' => e = .returned (.int .i64 (d.may [m, n])) ∧ Leads db mb w kv w' d := by
  have hA : ∀ o1, DiskAt (w.alloc o1) db mb d kv := fun o1 => h.only0 ((Only.refl [] w).alloc o1)
  have hm1 : (d.may [m, n] != 0) = true := by simp [hm]
  clear hm
  go_enter Tryz.func55, Tryz.ntmps55
  go_wp2_with (go_at_call 75; refine (may_any (l := [m, n]) (hA _) (slc_two (heap_alloc_new _ _))).mono ?_; rintro e w' ⟨rfl, rfl⟩)
  go_ret
  exact ⟨rfl, Leads.of (hA _) ((Only.refl _ w).alloc _)⟩
theorem rename_err {w : World} {db mb : Nat} {d : DS} {kv : Value} (h : DiskAt w db mb d kv) (m n : ByteArray) (hm : d.may [m, n] = 0) (he : (d.find m).2 ≠ 0) :
    Calls Tryz.prog 55 #[.pointer (some ⟨db, 0, none⟩), .string m, .string n] w fun e w' => e = .returned (.int .i64 (d.find m).2) ∧ Leads db mb w kv w' d := by
  have hA : ∀ o1, DiskAt (w.alloc o1) db mb d kv := fun o1 => h.only0 ((Only.refl [] w).alloc o1)
  have hc := fun o => find_err (hA o) m he
  have HC := Lib.hid hc
  have hm1 : (d.may [m, n] != 0) = false := by simp [hm]
  have he1 : ((d.find m).2 != 0) = true := by simp [he]
  clear hm he hc
  go_enter Tryz.func55, Tryz.ntmps55
  go_wp2_with (first | (go_at_call 75; refine (may_any (l := [m, n]) (hA _) (slc_two (heap_alloc_new _ _))).mono ?_; rintro e w' ⟨rfl, rfl⟩) | (go_at_call 78; refine (HC.out _).mono ?_; rintro e w1 ⟨rfl, ho1⟩))
  go_ret
  exact ⟨rfl, Leads.of (((hA _).only0 ho1).only0 ((Only.refl [] w1).alloc _)) ((((Only.refl _ w).alloc _).trans ho1.of_nil).alloc _)⟩
theorem rename_down {w : World} {db mb : Nat} {d : DS} {kv : Value} {M : Nat} (h : DiskAt w db mb d kv) (hk : d.Ok M) (hM : M ≤ 1125899906842624) (m n : ByteArray) (hm : d.may [m, n] = 0) (he : (d.find m).2 = 0) (hd : d.doneE ≠ 0) :
    Calls Tryz.prog 55 #[.pointer (some ⟨db, 0, none⟩), .string m, .string n] w fun e w' => e = .returned (.int .i64 d.doneE) ∧ Leads db mb w kv w' d.done := by
  have hA : ∀ o1, DiskAt (w.alloc o1) db mb d kv := fun o1 => h.only0 ((Only.refl [] w).alloc o1)
  have hc := fun o => find_ok (hA o) m he
  have HC := Lib.hid hc
  have hm1 : (d.may [m, n] != 0) = false := by simp [hm]
  have he1 : (d.doneE != 0) = true := by simp [hd]
  clear hm he hc hd
  go_enter Tryz.func55, Tryz.ntmps55
  go_wp2_with (first | (go_at_call 75; refine (may_any (l := [m, n]) (hA _) (slc_two (heap_alloc_new _ _))).mono ?_; rintro e w' ⟨rfl, rfl⟩) | (go_at_call 78; refine (HC.out _).mono ?_; rintro e w1 ⟨rfl, ho1⟩; have hA1 := (hA _).only0 ho1) | (go_at_call 77; refine (done_any (hA1.only0 ((Only.refl [] w1).alloc _)) hk hM).mono ?_; rintro e w2 ⟨rfl, h2⟩))
  go_ret
  exact ⟨rfl, Leads.step ((((Only.refl _ w).alloc _).trans ho1.of_nil).alloc _) (fun g hg => .inl hg) h2⟩
set_option maxHeartbeats 1000000 in
theorem rename_go {w : World} {db mb : Nat} {d : DS} {kv : Value} {M : Nat} (h : DiskAt w db mb d kv) (hk : d.Ok M) (hM : M ≤ 1125899906842624) (m n : ByteArray) (hm : d.may [m, n] = 0) (he : (d.find m).2 = 0) (hd : d.doneE = 0) :
    Calls Tryz.prog 55 #[.pointer (some ⟨db, 0, none⟩), .string m, .string n] w fun e w' => e = .returned (.int .i64 0) ∧ Leads db mb w kv w' { d.done with fs := aput (adel d.done.fs m) n (d.get m) } := by
  have hA : ∀ o1, DiskAt (w.alloc o1) db mb d kv := fun o1 => h.only0 ((Only.refl [] w).alloc o1)
  have hns := (DS.may_short hm n (by simp)).2
  have hc := fun o => find_ok (hA o) m he
  have HC := Lib.hid hc
  have hm1 : (d.may [m, n] != 0) = false := by simp [hm]
  have hz : ∀ W, DiskAt W db mb d kv → Calls Tryz.prog 77 #[.pointer (some ⟨db, 0, none⟩)] W fun e w' => e = .returned (.int .i64 0) ∧ Leads db mb W kv w' d.done := fun W hW => by
    have := done_any hW hk hM
    rw [hd] at this
    exact this
  have HZ := Lib.hid hz
  clear hm he hc hd hz
  go_enter Tryz.func55, Tryz.ntmps55
  go_wp2_with (first | (go_at_call 75; refine (may_any (l := [m, n]) (hA _) (slc_two (heap_alloc_new _ _))).mono ?_; rintro e w' ⟨rfl, rfl⟩) | (go_at_call 78; refine (HC.out _).mono ?_; rintro e w1 ⟨rfl, ho1⟩; have hA1 := (hA _).only0 ho1; have hb1 := fun o : Obj => (Only.refl [] w1).alloc o; have hw1 := ((Only.refl [db, mb] w).alloc _).trans ho1.of_nil) | (go_at_call 77; refine (HZ.out _ (hA1.only0 (hb1 _))).mono ?_; rintro e w2 ⟨rfl, kv2, h2, hk2, ho2⟩; have hn1 : w1.heap.size ∉ [db, mb] := (by have q1 := hA1.blk.lt; have q2 := hA1.map.lt; simp; omega); have hbx := ho2.blk (Blk.new w1 75 #[.string (d.get m).b, .int .i64 (d.get m).lasts, .bool (d.get m).known]) hn1; have d2 : w2.cell? ⟨db, 2, none⟩ = some (.map (some mb)) := h2.blk.cell 2) | (at_delete; refine wpList_delete_is rfl 55 9 rfl keyEnc_string Tryz.underlying55 Tryz.underlying9 m rfl rfl h2.map ?_; intro w3 hm3 hu3; have d3 : w3.cell? ⟨db, 2, none⟩ = some (.map (some mb)) := (h2.files hu3 (adel d.done.fs m) (by rw [adel_map]; exact hm3)).blk.cell 2))
  go_frame
  have hw2 : Only [db, mb] w w3 := ((hw1.alloc _).trans ho2).trans (hu3.mono (by simp))
  have hD := h2.files hu3 (adel d.done.fs m) (by rw [adel_map]; exact hm3)
  have hB := hu3.blk hbx (by simp at hn1; simp; exact hn1.2)
  have g2 : ∀ (e : Nat) (os : Array Obj), World.cell? (grow (redrawn _ e) os) ⟨db, 2, none⟩ = some (.map (some mb)) := fun e os => cell_regrown (hD.blk.cell 2) e os
  have b0 : ∀ (e : Nat) (os : Array Obj), World.cell? (grow (redrawn _ e) os) ⟨w1.heap.size, 0, none⟩ = some _ := fun e os => cell_regrown (hB.cell 0) e os
  have b1 : ∀ (e : Nat) (os : Array Obj), World.cell? (grow (redrawn _ e) os) ⟨w1.heap.size, 1, none⟩ = some _ := fun e os => cell_regrown (hB.cell 1) e os
  have b2 : ∀ (e : Nat) (os : Array Obj), World.cell? (grow (redrawn _ e) os) ⟨w1.heap.size, 2, none⟩ = some _ := fun e os => cell_regrown (hB.cell 2) e os
  have hMW : ∀ (e : Nat) (os : Array Obj), MapIs Value.string (grow (redrawn _ e) os) mb (fvals (adel d.done.fs m)) := fun e os => hD.map.only (Only.regrown [] _ e os) (by simp)
  have hC : ∀ W : World, Calls Tryz.prog 32 #[.string n] W fun e w' => e = .returned (.string n) ∧ Only [] W w' := fun W => strClone_any n W (by omega)
  have HCC := Lib.hid hC
  clear hC
  refine wp_region_btail 7 (by kernel_rfl) (by kernel_rfl) ?_
  simp only [List.take_succ_cons, List.take_zero]
  repeat (go_big_quiet_step ((go_at_call 32; exact Calls.regrown_only (HCC.out _))))
  refine wpQuiet_nil ?_
  rintro _ ⟨p, rfl⟩
  simp only [List.drop_succ_cons, List.drop_zero]
  refine wpList_update_is rfl 55 rfl keyEnc_string Tryz.underlying55 Tryz.underlying9 n (.agg #[.string (d.get m).b, .int .i64 (d.get m).lasts, .bool (d.get m).known]) rfl rfl rfl (hMW p.d p.os) ?_
  intro w5 hm5 hu5
  have hO5 := (Only.regrown [mb] _ p.d p.os).trans hu5
  clear hu5
  go_wp2
  go_ret
  refine ⟨rfl, kv2, hD.files hO5 (aput (adel d.done.fs m) n (d.get m)) (by rw [aput_map]; exact hm5), ?_, hw2.trans (hO5.mono (by simp))⟩
  intro g hg
  rcases hk2 g hg with q | q
  · exact .inl q
  · right; simp at q; have := hw1.size; omega
theorem rename_any {w : World} {db mb : Nat} {d : DS} {kv : Value} {M : Nat} (h : DiskAt w db mb d kv) (hk : d.Ok M) (hM : M ≤ 1125899906842624) (m n : ByteArray) :
    Calls Tryz.prog 55 #[.pointer (some ⟨db, 0, none⟩), .string m, .string n] w fun e w' => e = .returned (.int .i64 (d.rename m n).1) ∧ Leads db mb w kv w' (d.rename m n).2 := by
  unfold DS.rename
  by_cases hm : d.may [m, n] = 0
  · rw [if_neg (by simp [hm])]
    by_cases he : (d.find m).2 = 0
    · rw [if_neg (by simp [he])]
      by_cases hd : d.doneE = 0
      · rw [if_neg (by simp [hd])]
        exact rename_go h hk hM m n hm he hd
      · rw [if_pos hd]
        exact rename_down h hk hM m n hm he hd
    · rw [if_pos he]
      exact rename_err h m n hm he
  · rw [if_pos hm]
    exact rename_may h m n hm
theorem rename_nil (w : World) (m n : ByteArray) :
    Calls Tryz.prog 55 #[.pointer none, .string m, .string n] w fun e w' => e = .returned (.int .i64 14) ∧ Only [] w w' := by
  go_enter Tryz.func55, Tryz.ntmps55
  go_wp2_with (go_at_call 75; refine (may_nil _).mono ?_; rintro e w' ⟨rfl, rfl⟩)
  go_ret
  exact ⟨rfl, (Only.refl _ w).alloc _⟩
end Go.Proofs.YtfjkjndpndjfpaaGreatDoor
/- Contracts: Read, Size, Restore, Room, Unsynced, New. -/
namespace Go.Proofs.YtfjkjndpndjfpaaGreatDoor
open Go.RowKit Go.Sort

theorem size_any {w : World} {db mb : Nat} {d : DS} {kv : Value} (h : DiskAt w db mb d kv) (n : ByteArray) :
    Calls Tryz.prog 89 #[.pointer (some ⟨db, 0, none⟩), .string n] w fun e w' => e = .returned (.tuple #[.int .i64 (d.size n).1, .int .i64 (d.size n).2]) ∧ Only [] w w' := by
  have hc : Calls Tryz.prog 78 #[.pointer (some ⟨db, 0, none⟩), .string n] w fun e w' => e = .returned (.tuple #[.agg #[.string (d.find n).1.b, .int .i64 (d.find n).1.lasts, .bool (d.find n).1.known], .int .i64 (d.find n).2]) ∧ Only [] w w' := find_any h n
  have HC := Lib.hid hc
  clear hc
  go_enter Tryz.func89, Tryz.ntmps89
  go_wp2_with (go_at_call 78; refine HC.out.mono ?_; rintro e w1 ⟨rfl, ho1⟩)
  go_ret2
  exact ⟨rfl, ho1.alloc _⟩
theorem size_nil (w : World) (n : ByteArray) :
    Calls Tryz.prog 89 #[.pointer none, .string n] w fun e w' => e = .returned (.tuple #[.int .i64 0, .int .i64 14]) ∧ Only [] w w' := by
  go_enter Tryz.func89, Tryz.ntmps89
  go_wp2_with (go_at_call 78; refine (find_nilv _ _).mono ?_; rintro e w1 ⟨rfl, ho1⟩)
  go_ret2
  exact ⟨rfl, ho1.alloc _⟩

theorem read_err {w : World} {db mb : Nat} {d : DS} {kv : Value} (h : DiskAt w db mb d kv) (n : ByteArray) (a k : Int) (he : (d.find n).2 ≠ 0) :
    Calls Tryz.prog 90 #[.pointer (some ⟨db, 0, none⟩), .string n, .int .i64 a, .int .i64 k] w fun e w' => e = .returned (.tuple #[.string ⟨#[]⟩, .int .i64 (d.find n).2]) ∧ Only [] w w' := by
  have hc := find_err h n he
  have HC := Lib.hid hc
  have he1 : ((d.find n).2 != 0) = true := by simp [he]
  clear hc he
  go_enter Tryz.func90, Tryz.ntmps90
  go_wp2_with (go_at_call 78; refine HC.out.mono ?_; rintro e w1 ⟨rfl, ho1⟩)
  go_ret2
  exact ⟨rfl, ho1.alloc _⟩
theorem read_nil (w : World) (n : ByteArray) (a k : Int) :
    Calls Tryz.prog 90 #[.pointer none, .string n, .int .i64 a, .int .i64 k] w fun e w' => e = .returned (.tuple #[.string ⟨#[]⟩, .int .i64 14]) ∧ Only [] w w' := by
  go_enter Tryz.func90, Tryz.ntmps90
  go_wp2_with (go_at_call 78; refine (find_nilv _ _).mono ?_; rintro e w1 ⟨rfl, ho1⟩)
  go_ret2
  exact ⟨rfl, ho1.alloc _⟩
set_option maxHeartbeats 1000000 in
theorem read_range {w : World} {db mb : Nat} {d : DS} {kv : Value} (h : DiskAt w db mb d kv) (n : ByteArray) (a k : Int) (hs : (d.get n).b.size ≤ 1125899906842624) (he : (d.find n).2 = 0) (hr : a < 0 ∨ k < 0 ∨ (d.get n).b.size < a ∨ (d.get n).b.size - a < k) :
    Calls Tryz.prog 90 #[.pointer (some ⟨db, 0, none⟩), .string n, .int .i64 a, .int .i64 k] w fun e w' => e = .returned (.tuple #[.string ⟨#[]⟩, .int .i64 15]) ∧ Only [] w w' := by
  have hc := find_ok h n he
  have HC := Lib.hid hc
  clear hc he
  rcases (by omega : a < 0 ∨ (0 ≤ a ∧ k < 0) ∨ (0 ≤ a ∧ 0 ≤ k ∧ (d.get n).b.size < a) ∨ (0 ≤ a ∧ 0 ≤ k ∧ a ≤ (d.get n).b.size ∧ (d.get n).b.size - a < k)) with h1 | ⟨h1, h2⟩ | ⟨h1, h2, h3⟩ | ⟨h1, h2, h3, h4⟩ <;> clear hr
  all_goals
    go_enter Tryz.func90, Tryz.ntmps90
    go_wp2_with (go_at_call 78; refine HC.out.mono ?_; rintro e w1 ⟨rfl, ho1⟩)
    go_ret2
    exact ⟨rfl, ho1.alloc _⟩
set_option maxHeartbeats 1000000 in
theorem read_ok {w : World} {db mb : Nat} {d : DS} {kv : Value} (h : DiskAt w db mb d kv) (n : ByteArray) (a k : Int) (hs : (d.get n).b.size ≤ 1125899906842624) (he : (d.find n).2 = 0) (h1 : 0 ≤ a) (h2 : 0 ≤ k) (h3 : a ≤ (d.get n).b.size) (h4 : k ≤ (d.get n).b.size - a) :
    Calls Tryz.prog 90 #[.pointer (some ⟨db, 0, none⟩), .string n, .int .i64 a, .int .i64 k] w fun e w' => e = .returned (.tuple #[.string ((d.get n).b.extract a.toNat (a + k).toNat), .int .i64 0]) ∧ Only [] w w' := by
  have hc := find_ok h n he
  have HC := Lib.hid hc
  clear hc he
  go_enter Tryz.func90, Tryz.ntmps90
  go_wp2_with (go_at_call 78; refine HC.out.mono ?_; rintro e w1 ⟨rfl, ho1⟩)
  go_ret2
  exact ⟨rfl, ho1.alloc _⟩
theorem read_any {w : World} {db mb : Nat} {d : DS} {kv : Value} (h : DiskAt w db mb d kv) (n : ByteArray) (a k : Int) (hs : (d.get n).b.size ≤ 1125899906842624) :
    Calls Tryz.prog 90 #[.pointer (some ⟨db, 0, none⟩), .string n, .int .i64 a, .int .i64 k] w fun e w' => e = .returned (.tuple #[.string (d.read n a k).1, .int .i64 (d.read n a k).2]) ∧ Only [] w w' := by
  unfold DS.read
  by_cases he : (d.find n).2 = 0
  · rw [if_neg (by simp [he])]
    by_cases hr : a < 0 ∨ k < 0 ∨ (d.get n).b.size < a ∨ (d.get n).b.size - a < k
    · rw [if_pos hr]
      exact read_range h n a k hs he hr
    · rw [if_neg hr]
      exact read_ok h n a k hs he (by omega) (by omega) (by omega) (by omega)
  · rw [if_pos he]
    exact read_err h n a k he

theorem restore_any {w : World} {db mb : Nat} {d : DS} {kv : Value} (h : DiskAt w db mb d kv) :
    Calls Tryz.prog 21 #[.pointer (some ⟨db, 0, none⟩)] w fun e w' => e = .returned (.tuple #[]) ∧ DiskAt w' db mb d.restore kv ∧ Only [db] w w' := by
  have c0 : w.cell? ⟨db, 0, none⟩ = some (.bool d.on) := h.blk.cell 0
  have c2 : w.cell? ⟨db, 2, none⟩ = some (.map (some mb)) := h.blk.cell 2
  have f0 := h.blk.free 0
  have hne := fun w => run_neq_map_nil (P := Tryz.prog) w 55 _ _ (some mb) Tryz.underlying55
  go_enter Tryz.func21, Tryz.ntmps21
  go_wp2
  go_end0
  have ho : Only [db] w (w.setCell ⟨db, 0, none⟩ (.bool true)) := (Only.refl _ w).setCell (.inl (by simp)) _
  exact ⟨rfl, ⟨h.blk.set 0 _, h.map.only ho (by simp; exact h.ne), h.slc.only ho (fun g hg => by simp [(h.apart g hg).1]), h.apart, h.left, h.room, fun g hg => Nat.lt_of_lt_of_le (h.old g hg) ho.size⟩, ho⟩
theorem restore_nil (w : World) : Calls Tryz.prog 21 #[.pointer none] w fun e w' => e = .returned (.tuple #[]) ∧ w = w' := by
  go_enter Tryz.func21, Tryz.ntmps21
  go_wp2
  go_end0
  exact ⟨rfl, rfl⟩
theorem new_any (w : World) {room : Int} (hr : -9223372036854775808 ≤ room ∧ room ≤ 9223372036854775807) :
    Calls Tryz.prog 10 #[.int .i64 room] w fun e w' => e = .returned (.pointer (some ⟨w.heap.size + 1, 0, none⟩)) ∧ DiskAt w' (w.heap.size + 1) w.heap.size (DS.new room) (.slice none 0 0) ∧ Only [] w w' := by
  have hmm := @run_makeMap Tryz.prog
  go_enter Tryz.func10, Tryz.ntmps10
  go_wp2
  go_ret
  refine ⟨rfl, ⟨?_, ?_, ?_, ?_, ?_, hr, ?_⟩, ((Only.refl _ w).alloc _).alloc _⟩
  · exact heap_alloc2_new _ _ _
  · exact (MapIs.new Value.string w).alloc _
  · exact Slc.nil _ _
  · intro g hg; cases hg
  · simp [DS.new]
  · intro g hg; cases hg
end Go.Proofs.YtfjkjndpndjfpaaGreatDoor
/- Contracts: a log's calls of its disk (bytes, drop, cut). -/
set_option linter.unusedVariables false
set_option linter.unusedSimpArgs false
namespace Go.Proofs.YtfjkjndpndjfpaaGreatDoor
open Go Go.RowKit Go.Sort
section
variable {w : World} {lb db mb M : Nat} {pre : ByteArray} {size syn mark err : Int} {pv kv : Value} {d : DS}
theorem jget_any (h : Blk w lb 50 #[.pointer (some ⟨db, 0, none⟩), .string pre, .int .i64 size, pv, .int .i64 syn, .int .i64 mark, .int .i64 err]) (hd : DiskAt w db mb d kv) (n : ByteArray) (hs : (d.get n).b.size ≤ 1125899906842624) :
    Calls Tryz.prog 62 #[.pointer (some ⟨lb, 0, none⟩), .string n] w fun e w' => e = .returned (.tuple #[.string (LogS.bytes d n).1, .int .i64 (LogS.bytes d n).2]) ∧ Only [] w w' := by
  have c0 := h.cell 0
  have HS := Lib.hid (size_any hd n)
  have HB := Lib.hid h
  have HD := Lib.hid hd
  have HZ := Lib.hid hs
  obtain ⟨⟨z, e⟩, hze⟩ : ∃ q, d.size n = q := ⟨_, rfl⟩
  unfold LogS.bytes
  rw [hze] at HS ⊢
  dsimp only at HS ⊢
  clear h hd hs hze
  by_cases he : e = 0
  · subst he
    rw [if_neg (by simp)]
    go_enter Tryz.func62, Tryz.ntmps62
    go_wp2_with (first
      | (go_at_call 89; refine HS.out.mono ?_; rintro e1 w1 ⟨rfl, k1⟩; have c0' := (k1.blk HB.out (by simp)).cell 0; have HR := Lib.hid (read_any (HD.out.only k1 (by simp) (by simp) (by simp)) n 0 z HZ.out))
      | (go_at_call 90; refine HR.out.mono ?_; rintro e2 w2 ⟨rfl, k2⟩))
    go_ret2
    exact ⟨rfl, k1.trans k2⟩
  · rw [if_pos he]
    go_enter Tryz.func62, Tryz.ntmps62
    go_wp2_with (go_at_call 89; refine HS.out.mono ?_; rintro e1 w1 ⟨rfl, k1⟩)
    go_ret2
    exact ⟨rfl, k1⟩
theorem jdrop_any (h : Blk w lb 50 #[.pointer (some ⟨db, 0, none⟩), .string pre, .int .i64 size, pv, .int .i64 syn, .int .i64 mark, .int .i64 err]) (hd : DiskAt w db mb d kv) (hk : d.Ok M) (hM : M ≤ 1125899906842624) (n : ByteArray) :
    Calls Tryz.prog 33 #[.pointer (some ⟨lb, 0, none⟩), .string n] w fun e w' => e = .returned (.int .i64 (LogS.drop d n).1) ∧ Leads db mb w kv w' (LogS.drop d n).2 := by
  have c0 := h.cell 0
  have HS := Lib.hid (remove_any hd hk hM n)
  obtain ⟨⟨e, d'⟩, hze⟩ : ∃ q, d.remove n = q := ⟨_, rfl⟩
  unfold LogS.drop
  rw [hze] at HS ⊢
  dsimp only at HS ⊢
  clear h hd hk hze
  by_cases he : e = 8
  · subst he
    rw [if_neg (by simp)]
    go_enter Tryz.func33, Tryz.ntmps33
    go_wp2_with (go_at_call 49; refine HS.out.mono ?_; rintro e1 w1 ⟨rfl, k1⟩)
    go_ret
    exact ⟨rfl, k1⟩
  · rw [if_pos he]
    go_enter Tryz.func33, Tryz.ntmps33
    go_wp2_with (go_at_call 49; refine HS.out.mono ?_; rintro e1 w1 ⟨rfl, k1⟩)
    go_ret
    exact ⟨rfl, k1⟩
theorem jcut_any (h : Blk w lb 50 #[.pointer (some ⟨db, 0, none⟩), .string pre, .int .i64 size, pv, .int .i64 syn, .int .i64 mark, .int .i64 err]) (hd : DiskAt w db mb d kv) (hk : d.Ok M) (hM : M ≤ 1125899906842624) (n : ByteArray) (k : Int) (hk2 : (d.truncate n k).2.Ok M) :
    Calls Tryz.prog 64 #[.pointer (some ⟨lb, 0, none⟩), .string n, .int .i64 k] w fun e w' => e = .returned (.int .i64 (LogS.cut d n k).1) ∧ Leads db mb w kv w' (LogS.cut d n k).2 := by
  have c0 := h.cell 0
  have hne1 : lb ≠ db := h.other hd.blk (by decide)
  have hne2 : lb ≠ mb := fun e => (hd.map.ne_blk h) e.symm
  have HB := Lib.hid h
  have HS := Lib.hid (truncate_any hd hk hM n k)
  obtain ⟨⟨e, d'⟩, hze⟩ : ∃ q, d.truncate n k = q := ⟨_, rfl⟩
  unfold LogS.cut
  rw [hze] at HS hk2 ⊢
  dsimp only at HS hk2 ⊢
  clear h hd hk hze
  by_cases he : e = 0
  · subst he
    rw [if_neg (by simp)]
    go_enter Tryz.func64, Tryz.ntmps64
    go_wp2_with (first
      | (go_at_call 84; refine HS.out.mono ?_; rintro e1 w1 ⟨rfl, kv1, h1, q1, o1⟩; have c0' := (o1.blk HB.out (by simp [hne1, hne2])).cell 0; have HR := Lib.hid (sync_any h1 hk2 hM n); have h1 := Lib.hid h1)
      | (go_at_call 46; refine HR.out.mono ?_; rintro e2 w2 ⟨rfl, k2⟩))
    go_ret
    exact ⟨rfl, Leads.step o1 q1 k2⟩
  · rw [if_pos he]
    go_enter Tryz.func64, Tryz.ntmps64
    go_wp2_with (go_at_call 84; refine HS.out.mono ?_; rintro e1 w1 ⟨rfl, k1⟩)
    go_ret
    exact ⟨rfl, k1⟩
end
end Go.Proofs.YtfjkjndpndjfpaaGreatDoor
/- Contracts: a number's text (codec.Digits), in the Log seat (turned from XLc6). -/
set_option linter.unusedVariables false
set_option linter.unusedSimpArgs false
namespace Go.Proofs.YtfjkjndpndjfpaaGreatDoor
open Go Go.RowKit Go.Sort Go.Lib Go.Shelf
/-- The table of the powers of ten is as the program's text lays it. -/
def Tab (w : World) : Prop := Lib.TabIs Tryz.prog w "internal/strconv.uint64pow10" .u64 Lib.pow10Tab
theorem Tab.only {w w' : World} (h : Tab w) (k : Only [] w w') : Tab w' := by
  unfold Tab Lib.TabIs World.var? at *
  obtain ⟨g, hg, h2⟩ := Option.bind_eq_some_iff.1 h
  rw [hg]
  simp only [Option.bind_some]
  cases q : w.heap[g]? with
  | none => rw [q] at h2; cases h2
  | some o =>
    have hlt : g < w.heap.size := (Array.getElem?_eq_some_iff.1 q).1
    rw [k.block g hlt (by simp)]
    exact h2
theorem digits_any {w : World} (n : Int) (ht : Tab w) (h0 : -9223372036854775808 ≤ n) (h1 : n ≤ 9223372036854775807) : Calls Tryz.prog 81 #[.int .i64 n] w fun e w' => e = .returned (.string (ba (Lib.itoa n))) ∧ Only [] w w' := by
  have HI := Lib.hid (Tryz.strconv_Itoa n h0 h1 w ht)
  go_enter Tryz.func81, Tryz.ntmps81
  go_wp2_with (go_at_call 101; refine HI.out.mono ?_; rintro e w1 ⟨rfl, k, os, rfl⟩)
  go_ret
  exact ⟨rfl, Only.regrown [] w (w.drawn + k) os⟩
theorem itoa_size {n : Int} (h0 : -9223372036854775808 ≤ n) (h1 : n ≤ 9223372036854775807) : (ba (Lib.itoa n)).size ≤ 21 := by
  have e : (ba (Lib.itoa n)).size = (ba (Lib.itoa n)).data.toList.length := by simp
  rw [e, bts_ba]
  exact Lib.itoa_length_le n h0 h1
end Go.Proofs.YtfjkjndpndjfpaaGreatDoor
