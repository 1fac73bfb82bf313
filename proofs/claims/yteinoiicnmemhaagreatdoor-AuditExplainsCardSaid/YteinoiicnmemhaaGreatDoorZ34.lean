/- Proved here: contracts of functions and plain laws, part 34 of one proof. Conditions: each theorem names its own. -/
import Derived.Test.YteinoiicnmemhaaGreatDoorZ32
import Derived.Test.YteinoiicnmemhaaGreatDoorZ33
import Derived.Lib.OwnBridge
namespace Go.Proofs.YteinoiicnmemhaaGreatDoor.J
section
open Go.RowKit Go.Sort Go.Lib Go.Shelf
/-- What the closure of List asks. -/
def notPre (p : ByteArray) (s : ByteArray) : Bool := !(p.data.toList.isPrefixOf s.data.toList)
theorem notPre_at (p : ByteArray) (B : Nat) (W : World) (hc : W.cell? ⟨B, 0, none⟩ = some (.string p)) (x : ByteArray) :
    FnGives Tryz.prog 181 #[.pointer (some ⟨B, 0, none⟩)] #[.string x] (.bool (notPre p x)) W := by
  show Calls Tryz.prog 181 #[.string x, .pointer (some ⟨B, 0, none⟩)] W _
  go_enter Tryz.func181, Tryz.ntmps181
  go_wp2_with (go_at_call 182; refine (Tryz.strings_HasPrefix x p W).mono ?_; rintro e w1 ⟨rfl, rfl⟩)
  go_ret
  exact ⟨rfl, 0, rfl⟩
theorem only_putRow (w : World) (g q : Nat) (d : Array ByteArray) : Only [g] w (putRow Value.string (Sort.ahead w q) g 0 d) :=
  ⟨rfl, rfl, rfl, by simp [putRow, mapBlock, Sort.ahead], fun k _ hk => by
    have : g ≠ k := by simp at hk; omega
    simp [putRow, mapBlock, Sort.ahead, Array.getElem?_modify, this]⟩
theorem oneStr : OneCell Value.string := fun _ => rfl
theorem zeroStr (w : World) : (zeroValue 9).run Tryz.prog w = .ok (.string ⟨#[]⟩) w := by kernel_rfl
theorem enterList1 : ∀ args w, (callFunc 181 args).run Tryz.prog w = .ok (.enter 181 args) w := enters_of Tryz.func181 (by kernel_rfl) rfl
theorem idx_nil (w : World) (lb : Array Value) : Calls Tryz.prog 202 #[.slice none 0 0, .func (.func 181) #[] lb] w fun e w' => e = .returned (.int .i64 (-1)) ∧ Only [] w w' := by
  go_enter Tryz.func202, Tryz.ntmps202
  go_wp2
  go_loop [8] (fun i => i = .int .i64 0) (fun _ => 0)
  case atStart => rfl
  case round =>
    subst hrel
    go_wp2
    go_ret
    exact ⟨rfl, Only.refl _ _⟩
theorem del_nil (w : World) (lb : Array Value) : Calls Tryz.prog 179 #[.slice none 0 0, .func (.func 181) #[] lb] w fun e w' => e = .returned (.slice none 0 0) ∧ Only [] w w' := by
  go_enter Tryz.func179, Tryz.ntmps179
  go_wp2_with (go_at_call 202; refine (idx_nil _ _).mono ?_; rintro e w1 ⟨rfl, h1⟩)
  go_ret
  exact ⟨rfl, h1⟩
theorem filter_not (p : ByteArray) (l : List ByteArray) : (l.filter fun x => !notPre p x) = l.filter (fun s => p.data.toList.isPrefixOf s.data.toList) := by
  congr 1
  funext x
  simp [notPre]
/-- DeleteFunc with List's closure, whatever the slice owned. -/
theorem del_any {w : World} {base B : Nat} {v : Value} {ns : List ByteArray} (p : ByteArray) (hown : w.ownsRow base 9 1 v ns.length (strs ns)) (hc : w.cell? ⟨B, 0, none⟩ = some (.string p)) (hB : B < base) (hl : ns.length ≤ 1000000) :
    Calls Tryz.prog 179 #[v, .func (.func 181) #[] #[.pointer (some ⟨B, 0, none⟩)]] w fun e w' => ∃ v', e = .returned v' ∧
      w'.ownsRow base 9 1 v' (ns.filter fun x => !notPre p x).length (strs (ns.filter fun x => !notPre p x)) ∧ ∃ S, Only S w w' ∧ ∀ k ∈ S, base ≤ k := by
  by_cases hv : v = .slice none 0 0
  · subst hv
    have hn : ns = [] := by
      rcases hown.2 with ⟨_, q⟩ | ⟨g, cap, cur, q, _⟩
      · simpa using q
      · cases q
    subst hn
    exact (del_nil w _).mono fun e w' ⟨h1, h2⟩ => ⟨_, h1, ⟨rfl, .inl ⟨rfl, rfl⟩⟩, [], h2, by simp⟩
  · obtain ⟨g, cap, rfl, hb, hg, hn, hm, hz, hH⟩ := holds_of_ownsRow (enc := Value.string) (zs := ns) hown hv
    have hBl : B < w.heap.size := block_lt_of_cell hc
    have := AnyE.slices_DeleteFunc Tryz.delFunc Value.string oneStr (notPre p) 181 #[.pointer (some ⟨B, 0, none⟩)] enterList1 ⟨#[]⟩ zeroStr g 0 cap ns.toArray w
      (fun W x hb' => notPre_at p B W ((hb'.cell (p := ⟨B, 0, none⟩) hBl).trans hc) x)
      (fun n os dk x _ => notPre_at p B _ (by
        unfold sortWorld
        rw [cell?_grow _ _ _ (by show B < (putRow _ _ _ _ _).heap.size; rw [size_putRow]; exact hBl), cell?_putRow_other _ _ g 0 _ _ (Or.inl (by show B ≠ g; omega))]
        exact hc) x) hH (by simp; omega) (by simpa using hn)
    rw [show ns.toArray.size = ns.length by simp] at this
    refine Calls.mono this ?_
    rintro e w' ⟨rfl, q, rfl⟩
    simp only []
    have hle : (ns.filter fun x => !notPre p x).length ≤ ns.length := List.length_filter_le _ _
    have hr := ownsRow_putRow (enc := Value.string) (q := q) (ys := (ns.filter fun x => !notPre p x) ++ List.replicate (ns.length - (ns.filter fun x => !notPre p x).length) ⟨#[]⟩) (k := (ns.filter fun x => !notPre p x).length) hown (by simp; omega) hle
    rw [List.take_left] at hr
    exact ⟨_, rfl, hr, [g], only_putRow w g q _, by simp; omega⟩
/-- List, with the power on or off. -/
theorem list_any {w : World} {db mb : Nat} {d : DS} {kv : Value} {M : Nat} (h : DiskAt w db mb d kv) (hk : Fs d.fs M) (p : ByteArray) :
    Calls Tryz.prog 155 #[.pointer (some ⟨db, 0, none⟩), .string p] w fun e w' => ∃ v, e = .returned v ∧ Slc w' 1 v (d.list p).length (strs (d.list p)) ∧ (∀ g, v.ownBlock = some g → w.heap.size ≤ g) ∧ Only [] w w' := by
  have hf := hk.few
  have hnl : d.names.length ≤ 1000000 := by have : d.names.length = d.fs.length := by simp [DS.names]
                                            omega
  have c0 : ∀ o, (w.alloc o).cell? ⟨db, 0, none⟩ = some (.bool d.on) := fun o => (World.cell?_alloc_lt w o _ h.blk.lt).trans (h.blk.cell 0)
  cases ho : d.on
  · have hl : d.list p = [] := by simp [DS.list, ho]
    rw [hl]
    go_enter Tryz.func155, Tryz.ntmps155
    go_wp2_with (go_at_call 178; refine (on_any (h.only0 ((Only.refl [] w).alloc _))).mono ?_; rintro e w1 ⟨rfl, rfl⟩; rw [ho])
    go_ret
    exact ⟨_, rfl, Slc.nil _ 1, (by intro g hg; cases hg), (Only.refl [] w).alloc _⟩
  · have hl : d.list p = d.names.filter fun x => !notPre p x := by rw [filter_not]; simp [DS.list, ho]
    rw [hl]
    go_enter Tryz.func155, Tryz.ntmps155
    go_wp2_with (first
      | (go_at_call 178; refine (on_any (h.only0 ((Only.refl [] w).alloc _))).mono ?_; rintro e w1 ⟨rfl, rfl⟩; rw [ho])
      | (go_at_call 180; refine (names_own (h.only0 ((Only.refl [] w).alloc _)) hk).mono ?_; rintro e w2 ⟨v2, base, rfl, hrow, hb2, ho2⟩; have hB : w2.cell? ⟨w.heap.size, 0, none⟩ = some (.string p) := (ho2.cell (by simp) (by simp)).trans ((Blk.new w _ _).cell 0))
      | (go_at_call 179; refine (del_any p hrow hB (by simp at hb2; omega) hnl).mono ?_; rintro e w3 ⟨v3, rfl, hr3, S, ho3, hS3⟩))
    go_ret
    simp at hb2
    obtain ⟨q1, q2⟩ := Slc.of_own hr3
    refine ⟨v3, rfl, q1, fun g hg => ?_, (((Only.refl [] w).alloc _).trans ho2).step ho3 (fun k hk => .inr ?_)⟩
    · have := (q2 g hg).1
      omega
    · have := hS3 k hk
      omega
end
end Go.Proofs.YteinoiicnmemhaaGreatDoor.J
