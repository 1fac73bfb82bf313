/- run: steps of a disk, as a function; its contract. -/
import Derived.Test.YtgahjdfjlfoioaaDl9
set_option linter.unusedVariables false
namespace Go.Proofs.Ytgahjdfjlfoioaa
open Go.RowKit Go.Sort
def runOp (d : DS) (o : OpR) : DS :=
  if o.kind = 1 then (d.append o.name o.data).2 else if o.kind = 2 then (d.sync o.name).2 else if o.kind = 3 then (d.truncate o.name o.n).2 else if o.kind = 4 then (d.rename o.name o.to).2
  else if o.kind = 5 then (d.remove o.name).2 else if o.kind = 6 then d.crash o.keep else if o.kind = 7 then d.restore else d
theorem DS.Ok.more {d : DS} {M M' : Nat} (h : d.Ok M) (hm : M ≤ M') : d.Ok M' := ⟨h.left, h.files, Nat.le_trans h.bytes hm, h.few, h.nodup, h.short⟩
theorem runOp_ok {d : DS} {M : Nat} (h : d.Ok M) (o : OpR) : (runOp d o).Ok (M + o.data.size) ∧ DS.KeepLe d (runOp d o) := by
  have hl : M ≤ M + o.data.size := Nat.le_add_right _ _
  unfold runOp
  split
  · exact DS.append_ok h _ _
  split
  · exact ⟨(DS.sync_ok h _).1.more hl, (DS.sync_ok h _).2⟩
  split
  · exact ⟨(DS.truncate_ok h _ _).1.more hl, (DS.truncate_ok h _ _).2⟩
  split
  · exact ⟨(DS.rename_ok h _ _).1.more hl, (DS.rename_ok h _ _).2⟩
  split
  · exact ⟨(DS.remove_ok h _).1.more hl, (DS.remove_ok h _).2⟩
  split
  · exact ⟨(DS.crash_ok h _).1.more hl, (DS.crash_ok h _).2⟩
  split
  · exact ⟨(DS.restore_ok h).1.more hl, (DS.restore_ok h).2⟩
  exact ⟨h.more hl, Nat.le_refl _⟩
theorem dataSum_cons (o : OpR) (os : List OpR) : dataSum (o :: os) = o.data.size + dataSum os := by simp [dataSum]
theorem run_ok : ∀ (os : List OpR) {d : DS} {M : Nat}, d.Ok M → (os.foldl runOp d).Ok (M + dataSum os) ∧ DS.KeepLe d (os.foldl runOp d)
  | [], _, _, h => ⟨h, Nat.le_refl _⟩
  | o :: os, d, M, h => by
    have h1 := runOp_ok h o
    have h2 := run_ok os h1.1
    rw [List.foldl_cons, dataSum_cons, ← Nat.add_assoc]
    exact ⟨h2.1, Nat.le_trans h2.2 h1.2⟩
theorem dataSum_take (os : List OpR) (j : Nat) : dataSum (os.take j) ≤ dataSum os := by
  conv => rhs; rw [← List.take_append_drop j os]
  unfold dataSum
  rw [List.map_append, List.sum_append]
  omega
theorem dataSum_take_succ (os : List OpR) (j : Nat) (h : j < os.length) : dataSum (os.take (j + 1)) = dataSum (os.take j) + os[j].data.size := by
  unfold dataSum
  rw [List.take_succ_eq_append_getElem h, List.map_append, List.sum_append]
  rfl
theorem Leads.refl {db mb : Nat} {w : World} {d : DS} {kv : Value} (h : DiskAt w db mb d kv) : Leads db mb w kv w d := ⟨kv, h, fun g hg => .inl hg, Only.refl _ _⟩
theorem Leads.trans {db mb : Nat} {w w1 w2 : World} {kv kv1 : Value} {d2 : DS} (hk : ∀ g, kv1.ownBlock = some g → kv.ownBlock = some g ∨ w.heap.size ≤ g) (h1 : Only [db, mb] w w1) (h2 : Leads db mb w1 kv1 w2 d2) : Leads db mb w kv w2 d2 := by
  obtain ⟨kv2, a1, a2, a3⟩ := h2
  refine ⟨kv2, a1, fun g hg => ?_, h1.trans a3⟩
  rcases a2 g hg with q | q
  · exact hk g q
  · exact .inr (Nat.le_trans h1.size q)
theorem crash_lead {w : World} {db mb : Nat} {d : DS} {kv v : Value} {keep : List Int} {M : Nat} (h : DiskAt w db mb d kv) (hk : d.Ok M) (hM : M ≤ 1125899906842624)
    (hs : Slc w 1 v keep.length (ints keep)) (hap : ∀ g, v.ownBlock = some g → (g ≠ db ∧ g ≠ mb) ∨ keep = []) :
    Calls Try.prog 18 #[.pointer (some ⟨db, 0, none⟩), v] w fun e w' => e = .returned (.int .i64 (d.lost keep)) ∧ Leads db mb w kv w' (d.crash keep) :=
  (crash_any' h hk.fs hM hs hap).mono fun e w' ⟨q1, ⟨kv', q2, q3⟩, q4⟩ => ⟨q1, kv', q2, q3, q4⟩
theorem restore_lead {w : World} {db mb : Nat} {d : DS} {kv : Value} (h : DiskAt w db mb d kv) :
    Calls Try.prog 19 #[.pointer (some ⟨db, 0, none⟩)] w fun e w' => e = .returned (.tuple #[]) ∧ Leads db mb w kv w' d.restore :=
  (restore_any h).mono fun e w' ⟨q1, q2, q3⟩ => ⟨q1, kv, q2, fun g hg => .inl hg, q3.mono (by simp)⟩
set_option maxRecDepth 100000 in
set_option maxHeartbeats 4000000 in
theorem run_any {w : World} {db mb B M : Nat} {d : DS} {kv v : Value} {os : List OpR} (h : DiskAt w db mb d kv) (hk : d.Ok M) (hM : M + dataSum os ≤ 1125899906842624) (ho : OpsAt w B v os) (hB : B ≤ db ∧ B ≤ mb) :
    Calls Try.prog 26 #[.pointer (some ⟨db, 0, none⟩), v] w fun e w' => e = .returned (.tuple #[]) ∧ Leads db mb w kv w' (os.foldl runOp d) := by
  obtain ⟨A1, cap1, rfl, hnc1, hcm1, hl1, hc1⟩ := ho.slc.cell
  unfold maxLen at hcm1
  go_enter Try.func26, Try.ntmps26
  go_wp2
  go_loopw [4] (fun i wr => ∃ j : Nat, j ≤ os.length ∧ i = .int .i64 j ∧ Leads db mb w kv wr ((os.take j).foldl runOp d)) (fun i _ => os.length - (intOf i).toNat)
  case atStart => exact ⟨0, Nat.zero_le _, rfl, Leads.refl h⟩
  case round =>
    obtain ⟨j, hj, rfl, hL⟩ := hrel
    by_cases hlt : j < os.length
    case neg =>
      have hf : os.take j = os := List.take_of_length_le (by omega)
      rw [hf] at hL
      clear hf
      go_wp2
      go_end0
      exact ⟨rfl, hL⟩
    case pos =>
      obtain ⟨b, off, cap, hv, _, _, hbB, hcc⟩ := ho.cells hlt
      obtain ⟨rfl, rfl⟩ : A1 = some ⟨b, off, none⟩ ∧ cap1 = cap := by injection hv with e1 e2 e3; exact ⟨e1, e3⟩
      have hb : b < w.heap.size := Nat.lt_of_lt_of_le hbB ho.big
      obtain ⟨o, hoe⟩ : ∃ o, o = os[j] := ⟨_, rfl⟩
      have hok := ho.ok o (by rw [hoe]; exact List.getElem_mem hlt)
      rw [← hoe] at hcc
      obtain ⟨kvr, hD, hkr, hO⟩ := hL
      have hbs : b ∉ [db, mb] := by simp; omega
      have c0 : wr.cell? ⟨b, off + j * 6, none⟩ = some (.int .i64 o.kind) := (hO.cell hb hbs).trans (hcc 0 (by omega))
      have c1 : wr.cell? ⟨b, off + j * 6 + 1, none⟩ = some (.int .i64 o.n) := (hO.cell hb hbs).trans (hcc 1 (by omega))
      have c2 : wr.cell? ⟨b, off + j * 6 + 2, none⟩ = some (.string o.name) := (hO.cell hb hbs).trans (hcc 2 (by omega))
      have c3 : wr.cell? ⟨b, off + j * 6 + 3, none⟩ = some (.string o.to) := (hO.cell hb hbs).trans (hcc 3 (by omega))
      have c4 : wr.cell? ⟨b, off + j * 6 + 4, none⟩ = some (.string o.data) := (hO.cell hb hbs).trans (hcc 4 (by omega))
      have c5 : wr.cell? ⟨b, off + j * 6 + 5, none⟩ = some o.keepV := (hO.cell hb hbs).trans (hcc 5 (by omega))
      have hok1 := (run_ok (os.take j) hk).1
      have hds := dataSum_take_succ os j hlt
      have hdt := dataSum_take os (j + 1)
      rw [← hoe] at hds
      have hfold : (os.take (j + 1)).foldl runOp d = runOp ((os.take j).foldl runOp d) o := by
        rw [List.take_succ_eq_append_getElem hlt, List.foldl_append, ← hoe]
        rfl
      obtain ⟨dr, hdr⟩ : ∃ dr, dr = (os.take j).foldl runOp d := ⟨_, rfl⟩
      obtain ⟨Mr, hMr⟩ : ∃ Mr, Mr = M + dataSum (os.take j) := ⟨_, rfl⟩
      rw [← hdr] at hD hok1 hfold
      rw [← hMr] at hok1
      have hM1 : Mr + o.data.size ≤ 1125899906842624 := by omega
      have hM2 : Mr ≤ 1125899906842624 := by omega
      have HF := Lib.hid hfold
      have ⟨m0, m1, m2, m3, m4, m5, m6⟩ := hok
      have hks : Slc wr 1 o.keepV o.keep.length (ints o.keep) := by
        have hq := (ho.only hO (by simp; omega)).ok o (by rw [hoe]; exact List.getElem_mem hlt)
        exact hq.2.2.2.2.2.1
      have hka : ∀ g, o.keepV.ownBlock = some g → (g ≠ db ∧ g ≠ mb) ∨ o.keep = [] := fun g hg => (m6 g hg).elim (fun q => .inl ⟨by omega, by omega⟩) .inr
      clear hfold hdr hMr hds hdt hoe hcc hc1 hl1 hv
      have hend : ∀ w2, Leads db mb wr kvr w2 (runOp dr o) → Leads db mb w kv w2 ((os.take (j + 1)).foldl runOp d) := fun w2 q => by
        exact HF.out ▸ Leads.trans hkr hO q
      have HE := Lib.hid hend
      clear hend
      by_cases k1 : o.kind = 1
      ·
        have hr : runOp dr o = (dr.append o.name o.data).2 := by simp [runOp, k1]
        rw [k1] at c0
        have HK : ∀ W, Only [] wr W → Calls Try.prog 11 #[.pointer (some ⟨db, 0, none⟩), .string o.name, .string o.data] W fun e w' => e = .returned (.int .i64 (dr.append o.name o.data).1) ∧ Leads db mb w kv w' ((os.take (j + 1)).foldl runOp d) := fun W hW =>
          (append_any (hD.only0 hW) hok1 o.name o.data hM1).mono fun e w' ⟨q1, q2⟩ => ⟨q1, HE.out w' (by rw [hr]; exact Leads.step hW.of_nil (fun g hg => .inl hg) q2)⟩
        have HK' := Lib.hid HK
        clear HK hr k1 HE
        (go_wp2_with fail); go_region_with (go_at_call 11; refine (HK'.out _ (Only.refl [] wr).drew).mono ?_; rintro e w2 ⟨rfl, h2⟩)
        all_goals
          go_wp2
          exact ⟨⟨j + 1, hlt, by simp, h2⟩, by simp [intOf]; omega⟩
      by_cases k2 : o.kind = 2
      ·
        have hr : runOp dr o = (dr.sync o.name).2 := by simp [runOp, k2]
        rw [k2] at c0
        have HK : ∀ W, Only [] wr W → Calls Try.prog 14 #[.pointer (some ⟨db, 0, none⟩), .string o.name] W fun e w' => e = .returned (.int .i64 (dr.sync o.name).1) ∧ Leads db mb w kv w' ((os.take (j + 1)).foldl runOp d) := fun W hW =>
          (sync_any (hD.only0 hW) hok1 hM2 o.name).mono fun e w' ⟨q1, q2⟩ => ⟨q1, HE.out w' (by rw [hr]; exact Leads.step hW.of_nil (fun g hg => .inl hg) q2)⟩
        have HK' := Lib.hid HK
        clear HK hr k2 HE
        go_wp2_with (go_at_call 14; refine (HK'.out _ (Only.refl [] wr)).mono ?_; rintro e w2 ⟨rfl, h2⟩)
        all_goals
          go_wp2
          exact ⟨⟨j + 1, hlt, by simp, h2⟩, by simp [intOf]; omega⟩
      by_cases k3 : o.kind = 3
      ·
        have hr : runOp dr o = (dr.truncate o.name o.n).2 := by simp [runOp, k3]
        rw [k3] at c0
        have HK : ∀ W, Only [] wr W → Calls Try.prog 31 #[.pointer (some ⟨db, 0, none⟩), .string o.name, .int .i64 o.n] W fun e w' => e = .returned (.int .i64 (dr.truncate o.name o.n).1) ∧ Leads db mb w kv w' ((os.take (j + 1)).foldl runOp d) := fun W hW =>
          (truncate_any (hD.only0 hW) hok1 hM2 o.name o.n).mono fun e w' ⟨q1, q2⟩ => ⟨q1, HE.out w' (by rw [hr]; exact Leads.step hW.of_nil (fun g hg => .inl hg) q2)⟩
        have HK' := Lib.hid HK
        clear HK hr k3 HE
        (go_wp2_with fail); go_region_with (go_at_call 31; refine (HK'.out _ (Only.refl [] wr).drew).mono ?_; rintro e w2 ⟨rfl, h2⟩)
        all_goals
          go_wp2
          exact ⟨⟨j + 1, hlt, by simp, h2⟩, by simp [intOf]; omega⟩
      by_cases k4 : o.kind = 4
      ·
        have hr : runOp dr o = (dr.rename o.name o.to).2 := by simp [runOp, k4]
        rw [k4] at c0
        have HK : ∀ W, Only [] wr W → Calls Try.prog 24 #[.pointer (some ⟨db, 0, none⟩), .string o.name, .string o.to] W fun e w' => e = .returned (.int .i64 (dr.rename o.name o.to).1) ∧ Leads db mb w kv w' ((os.take (j + 1)).foldl runOp d) := fun W hW =>
          (rename_any (hD.only0 hW) hok1 hM2 o.name o.to).mono fun e w' ⟨q1, q2⟩ => ⟨q1, HE.out w' (by rw [hr]; exact Leads.step hW.of_nil (fun g hg => .inl hg) q2)⟩
        have HK' := Lib.hid HK
        clear HK hr k4 HE
        (go_wp2_with fail); go_region_with (go_at_call 24; refine (HK'.out _ (Only.refl [] wr).drew).mono ?_; rintro e w2 ⟨rfl, h2⟩)
        all_goals
          go_wp2
          exact ⟨⟨j + 1, hlt, by simp, h2⟩, by simp [intOf]; omega⟩
      by_cases k5 : o.kind = 5
      ·
        have hr : runOp dr o = (dr.remove o.name).2 := by simp [runOp, k5]
        rw [k5] at c0
        have HK : ∀ W, Only [] wr W → Calls Try.prog 13 #[.pointer (some ⟨db, 0, none⟩), .string o.name] W fun e w' => e = .returned (.int .i64 (dr.remove o.name).1) ∧ Leads db mb w kv w' ((os.take (j + 1)).foldl runOp d) := fun W hW =>
          (remove_any (hD.only0 hW) hok1 hM2 o.name).mono fun e w' ⟨q1, q2⟩ => ⟨q1, HE.out w' (by rw [hr]; exact Leads.step hW.of_nil (fun g hg => .inl hg) q2)⟩
        have HK' := Lib.hid HK
        clear HK hr k5 HE
        go_wp2_with (go_at_call 13; refine (HK'.out _ (Only.refl [] wr)).mono ?_; rintro e w2 ⟨rfl, h2⟩)
        all_goals
          go_wp2
          exact ⟨⟨j + 1, hlt, by simp, h2⟩, by simp [intOf]; omega⟩
      by_cases k6 : o.kind = 6
      ·
        have hr : runOp dr o = dr.crash o.keep := by simp [runOp, k6]
        rw [k6] at c0
        have HK : ∀ W, Only [] wr W → Calls Try.prog 18 #[.pointer (some ⟨db, 0, none⟩), o.keepV] W fun e w' => e = .returned (.int .i64 (dr.lost o.keep)) ∧ Leads db mb w kv w' ((os.take (j + 1)).foldl runOp d) := fun W hW =>
          (crash_lead (hD.only0 hW) hok1 hM2 (hks.only hW (by simp)) hka).mono fun e w' ⟨q1, q2⟩ => ⟨q1, HE.out w' (by rw [hr]; exact Leads.step hW.of_nil (fun g hg => .inl hg) q2)⟩
        have HK' := Lib.hid HK
        clear HK hr k6 HE
        go_wp2_with (go_at_call 18; refine (HK'.out _ (Only.refl [] wr)).mono ?_; rintro e w2 ⟨rfl, h2⟩)
        all_goals
          go_wp2
          exact ⟨⟨j + 1, hlt, by simp, h2⟩, by simp [intOf]; omega⟩
      by_cases k7 : o.kind = 7
      ·
        have hr : runOp dr o = dr.restore := by simp [runOp, k7]
        rw [k7] at c0
        have HK : ∀ W, Only [] wr W → Calls Try.prog 19 #[.pointer (some ⟨db, 0, none⟩)] W fun e w' => e = .returned (.tuple #[]) ∧ Leads db mb w kv w' ((os.take (j + 1)).foldl runOp d) := fun W hW =>
          (restore_lead (hD.only0 hW)).mono fun e w' ⟨q1, q2⟩ => ⟨q1, HE.out w' (by rw [hr]; exact Leads.step hW.of_nil (fun g hg => .inl hg) q2)⟩
        have HK' := Lib.hid HK
        clear HK hr k7 HE
        go_wp2_with (go_at_call 19; refine (HK'.out _ (Only.refl [] wr)).mono ?_; rintro e w2 ⟨rfl, h2⟩)
        all_goals
          go_wp2
          exact ⟨⟨j + 1, hlt, by simp, h2⟩, by simp [intOf]; omega⟩
      have hr : runOp dr o = dr := by simp [runOp, k1, k2, k3, k4, k5, k6, k7]
      have hfin := HE.out wr (by rw [hr]; exact Leads.refl hD)
      have hb1 : ((o.kind : Int) == 1) = false := by simpa using k1
      have hb2 : ((o.kind : Int) == 2) = false := by simpa using k2
      have hb3 : ((o.kind : Int) == 3) = false := by simpa using k3
      have hb4 : ((o.kind : Int) == 4) = false := by simpa using k4
      have hb5 : ((o.kind : Int) == 5) = false := by simpa using k5
      have hb6 : ((o.kind : Int) == 6) = false := by simpa using k6
      have hb7 : ((o.kind : Int) == 7) = false := by simpa using k7
      clear HE hr k1 k2 k3 k4 k5 k6 k7
      go_wp2
      exact ⟨⟨j + 1, hlt, by simp, hfin⟩, by simp [intOf]; omega⟩
end Go.Proofs.Ytgahjdfjlfoioaa
