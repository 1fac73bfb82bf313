/- Light: the steps are few and small. -/
import Derived.Test.YtgahjdfjlfoioaaDl9
import Derived.Deep.RegionHeld3
set_option linter.unusedVariables false
namespace Go.Proofs.Ytgahjdfjlfoioaa
open Go.RowKit Go.Sort
def LightQ (os : List OpR) (b : Bool) : Prop := b = true → os.length ≤ 80 ∧ dataSum os ≤ 20000
/-- It returns some Bool of which Q is so. -/
def RetB (e : Ending) (Q : Bool → Prop) : Prop := ∃ b : Bool, e = .returned (.bool b) ∧ Q b
set_option maxRecDepth 100000 in
set_option maxHeartbeats 2000000 in
theorem light_any {w : World} {B : Nat} {v : Value} {os : List OpR} (h : OpsAt w B v os) :
    Calls Try.prog 25 #[v] w fun e w' => RetB e (LightQ os) ∧ Only [] w w' := by
  obtain ⟨A1, cap1, rfl, hnc1, hcm1, hl1, hc1⟩ := h.slc.cell
  unfold maxLen at hcm1
  go_enter Try.func25, Try.ntmps25
  go_wp2
  go_loopw [3, 4] (fun u i wr => ∃ (j : Nat) (q : Int), j ≤ os.length ∧ j ≤ 200 ∧ i = .int .i64 j ∧ u = .int .i64 q ∧ -1 ≤ q ∧ q ≤ 20000 ∧ Hid (0 ≤ q → (dataSum (os.take j) : Int) ≤ 20000 - q) ∧ Only [] w wr) (fun _ i _ => os.length - (intOf i).toNat)
  case atStart => exact ⟨0, 20000, Nat.zero_le _, by omega, rfl, rfl, by omega, by omega, by unfold Hid; intro _; simp [dataSum], Only.refl _ _⟩
  case round =>
    obtain ⟨j, q, hj, hj2, rfl, rfl, hq0, hq1, HD, hO⟩ := hrel
    by_cases hlt : j < os.length
    case neg =>
      have hf : Hid (0 ≤ q → (dataSum os : Int) ≤ 20000 - q) := by
        have := HD.out
        rw [List.take_of_length_le (by omega)] at this
        exact this
      by_cases hq : 0 ≤ q
      · have hd := hf.out hq
        have hf' := Lib.hid hd
        clear hf hd
        by_cases h80 : os.length ≤ 80
        · go_wp2
          go_ret
          exact ⟨⟨_, rfl, fun _ => ⟨h80, by have := hf'.out; omega⟩⟩, hO⟩
        · go_wp2
          go_ret
          exact ⟨⟨false, rfl, fun hb => by cases hb⟩, hO⟩
      · by_cases h80 : os.length ≤ 80
        · go_wp2
          go_ret
          exact ⟨⟨false, rfl, fun hb => by cases hb⟩, hO⟩
        · go_wp2
          go_ret
          exact ⟨⟨false, rfl, fun hb => by cases hb⟩, hO⟩
    case pos =>
      by_cases hj3 : j < 200
      · by_cases hqn : 0 ≤ q
        · obtain ⟨b, off, cap, hv, _, _, hbB, hcc⟩ := h.cells hlt
          obtain ⟨rfl, rfl⟩ : A1 = some ⟨b, off, none⟩ ∧ cap1 = cap := by injection hv with e1 e2 e3; exact ⟨e1, e3⟩
          have hb : b < w.heap.size := Nat.lt_of_lt_of_le hbB h.big
          obtain ⟨o, hoe⟩ : ∃ o, o = os[j] := ⟨_, rfl⟩
          have hok := h.ok o (by rw [hoe]; exact List.getElem_mem hlt)
          rw [← hoe] at hcc
          have c2 : wr.cell? ⟨b, off + j * 6 + 2, none⟩ = some (.string o.name) := (hO.cell hb (by simp)).trans (hcc 2 (by omega))
          have c3 : wr.cell? ⟨b, off + j * 6 + 3, none⟩ = some (.string o.to) := (hO.cell hb (by simp)).trans (hcc 3 (by omega))
          have c4 : wr.cell? ⟨b, off + j * 6 + 4, none⟩ = some (.string o.data) := (hO.cell hb (by simp)).trans (hcc 4 (by omega))
          have c5 : wr.cell? ⟨b, off + j * 6 + 5, none⟩ = some o.keepV := (hO.cell hb (by simp)).trans (hcc 5 (by omega))
          have hR : ∀ (e : Nat) (os : Array Obj), Only [] wr (grow (redrawn wr e) os) := fun e os => Only.regrown [] wr e os
          have r2 : ∀ (e : Nat) (os : Array Obj), World.cell? (grow (redrawn wr e) os) _ = some (.string o.name) := fun e os => cell_regrown c2 e os
          have r3 : ∀ (e : Nat) (os : Array Obj), World.cell? (grow (redrawn wr e) os) _ = some (.string o.to) := fun e os => cell_regrown c3 e os
          have r4 : ∀ (e : Nat) (os : Array Obj), World.cell? (grow (redrawn wr e) os) _ = some (.string o.data) := fun e os => cell_regrown c4 e os
          have r5 : ∀ (e : Nat) (os : Array Obj), World.cell? (grow (redrawn wr e) os) _ = some o.keepV := fun e os => cell_regrown c5 e os
          obtain ⟨_, _, m2, m3, m4, hks, _⟩ := hok
          obtain ⟨Ak, capk, hkv, _, hcmk, hlk, _⟩ := hks.cell
          rw [hkv] at r5 c5
          unfold maxLen at m2 m3 m4
          have hbd := roomOf_bd [(o.name.size : Int), (o.to.size : Int), (o.data.size : Int), (o.keep.length : Int)] q (by simp) hq0
          have hle := roomOf_le [(o.name.size : Int), (o.to.size : Int), (o.data.size : Int), (o.keep.length : Int)] q (by simp)
          have hds : dataSum (os.take (j + 1)) = dataSum (os.take j) + o.data.size := by
            rw [hoe]
            unfold dataSum
            rw [List.take_succ_eq_append_getElem hlt, List.map_append, List.sum_append]
            rfl
          have hnext : Hid (0 ≤ roomOf q [(o.name.size : Int), (o.to.size : Int), (o.data.size : Int), (o.keep.length : Int)] → (dataSum (os.take (j + 1)) : Int) ≤ 20000 - roomOf q [(o.name.size : Int), (o.to.size : Int), (o.data.size : Int), (o.keep.length : Int)]) := by
            unfold Hid
            intro hp
            have h1 := (hle hp).1
            have h2 := HD.out hqn
            simp only [List.sum_cons, List.sum_nil] at h1
            rw [hds]
            omega
          clear hle hds hoe
          clear r2 r3 r4 r5 hR
          go_wp2_with fail
          go_region_held3 (fun w' => w'.cell? ⟨b, off + j * 6 + 2, none⟩ = some (.string o.name) ∧ w'.cell? ⟨b, off + j * 6 + 3, none⟩ = some (.string o.to) ∧ w'.cell? ⟨b, off + j * 6 + 4, none⟩ = some (.string o.data) ∧ w'.cell? ⟨b, off + j * 6 + 5, none⟩ = some (.slice Ak o.keep.length capk))
            (first | go_keep | (go_split_ands; refine ⟨?_, ?_, ?_, ?_⟩ <;> (rw [h2.cell (block_lt_of_cell (by assumption)) (by simp)]; assumption)))
            ((go_at_call 39; refine (room4 wr o.name.size o.to.size o.data.size o.keep.length q hq0 (by omega)).mono ?_; rintro e w2 ⟨rfl, h2⟩))
          go_wp2
          exact ⟨⟨j + 1, _, by omega, by omega, by simp, rfl, hbd.1, by omega, hnext, hO.trans h2⟩, by simp [intOf]; omega⟩
        · by_cases h80 : os.length ≤ 80
          · go_wp2
            go_ret
            exact ⟨⟨false, rfl, fun hb => by cases hb⟩, hO⟩
          · go_wp2
            go_ret
            exact ⟨⟨false, rfl, fun hb => by cases hb⟩, hO⟩
      · have h80 : ¬ os.length ≤ 80 := by omega
        go_wp2
        go_ret
        exact ⟨⟨false, rfl, fun hb => by cases hb⟩, hO⟩
end Go.Proofs.Ytgahjdfjlfoioaa
