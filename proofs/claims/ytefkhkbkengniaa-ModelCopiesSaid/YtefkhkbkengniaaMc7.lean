/- Contracts: keep, first, wrong, again. -/
import Derived.Test.YtefkhkbkengniaaMc6
set_option linter.unusedVariables false
set_option linter.unusedSimpArgs false
namespace Go.Proofs.Ytefkhkbkengniaa
open Go.RowKit
/-- A stream that may be looked at with the state s. -/
structure XOk (s : MS) (x : StreamR) : Prop where
  mt : x.mt.ok = true
  fl : 0 ≤ x.floor ∧ x.floor ≤ x.places.length
  pl : ∀ p ∈ x.places, 0 ≤ p ∧ p < s.all.length
  few : x.places.length ≤ s.all.length
theorem MS.Ok.xok {s : MS} {N : Nat} (h : s.Ok N) (n : ByteArray) : XOk s (s.find n) := by
  obtain ⟨h1, h2, h3, h4, h5⟩ := h.find n
  exact ⟨h1, ⟨h2, h3⟩, h5, h4⟩
theorem floorE_bd (m : MetaR) (f now : Int) (ts : List Int) : 0 ≤ floorE m f now ts ∧ floorE m f now ts ≤ ts.length := by
  unfold floorE
  dsimp only
  have h1 : 0 ≤ max (max f 0) m.before := by omega
  generalize max (max f 0) m.before = o1 at *
  have h2 : 0 ≤ (if 0 < m.maxCount then max o1 (ts.length - m.maxCount) else o1) := by split <;> omega
  generalize (if 0 < m.maxCount then max o1 (ts.length - m.maxCount) else o1) = o2 at *
  have h3 : 0 ≤ (if 0 < m.maxAge then max o2 (young m.maxAge now ts) else o2) := by split <;> omega
  generalize (if 0 < m.maxAge then max o2 (young m.maxAge now ts) else o2) = o3 at *
  omega
theorem floorOf_bd (s : MS) (x : StreamR) : 0 ≤ s.floorOf x ∧ s.floorOf x ≤ x.places.length := by
  have := floorE_bd x.mt x.floor s.now (times s.all x)
  rw [times_len] at this
  exact this
theorem keep_any {w : World} {M : List Nat} {sb mb N : Nat} {av pv : Value} {pf : ByteArray → Value} {s : MS} {x : StreamR} (h : StAt w M sb mb av pf s) (hn : 0 ≤ s.now ∧ s.now ≤ 1099511627776) (ha : s.all.length ≤ 1000000000) (hx : XOk s x) (n : ByteArray)
    (hp : Rd M w 1 pv x.places.length (ints x.places)) :
    Calls Try.prog 40 #[.pointer (some ⟨sb, 0, none⟩), .string n, x.val pv] w fun e w' => e = .returned (.tuple #[]) ∧ StAt w' M sb mb av (fun k => if k = n then pv else pf k) (s.keep n x) ∧ Only [mb] w w' := by
  obtain ⟨A, cap, hpv, _⟩ := hp.1.openI
  have hl : x.places.length ≤ 1000000000 := Nat.le_trans hx.few ha
  have hW : Only [] w (w.alloc (.cells #[pv, .int .i64 x.mt.maxCount, .int .i64 x.mt.maxAge, .int .i64 x.mt.before, .int .i64 x.floor, .bool x.deleted] 77)) := (Only.refl [] w).alloc _
  have HF := Lib.hid (floorOf_any (h.only0 hW) hn (hp.1.only0 hW) hx.pl hl hx.mt hx.fl)
  have HP := Lib.hid (fun (W : World) (hw : Only [] w W) => put_any (x := { x with floor := s.floorOf x }) (h.only0 hw) n (hp.only0 hw))
  obtain ⟨fo, hfo⟩ : ∃ fo, fo = s.floorOf x := ⟨_, rfl⟩
  have HK : Hid (s.keep n x = s.put n { x with floor := fo }) := by rw [hfo]; rfl
  rw [← hfo] at HF HP
  rw [HK.out]
  clear hn hfo HK hx hl
  subst hpv
  obtain ⟨places, ⟨a, b, d⟩, fl, del⟩ := x
  simp only [StreamR.val] at HF HP hW ⊢
  clear hp
  go_enter Try.func40, Try.ntmps40
  go_wp2_with (first
    | (go_at_call 38; refine HF.out.mono ?_; rintro e w1 ⟨rfl, ho1⟩; have hc1 := fun i => (ho1.blk (Blk.new w 77 _) (by simp)).cell i; have hf1 := fun i => (ho1.blk (Blk.new w 77 _) (by simp)).free i)
    | (go_at_call 76; refine (HP.out _ ((hW.trans ho1).setCell (.inr (Nat.le_refl _)) _)).mono ?_; rintro e w2 ⟨rfl, hs2, ho2⟩))
  go_end0
  exact ⟨rfl, hs2, (((hW.trans ho1).setCell (.inr (Nat.le_refl _)) _).of_nil).trans ho2⟩
theorem wrong_any {w : World} {pv : Value} {x : StreamR} (hp : Slc w 1 pv x.places.length (ints x.places)) (hl : x.places.length ≤ 1000000000) :
    Calls Try.prog 72 #[x.val pv] w fun e w' => e = .returned (wrong x).val ∧ Only [] w w' := by
  obtain ⟨A, cap, rfl, _⟩ := hp.openI
  obtain ⟨places, ⟨a, b, d⟩, fl, del⟩ := x
  simp only [StreamR.val, wrong, Ans.val] at hl ⊢
  clear hp
  go_enter Try.func72, Try.ntmps72
  go_wp2
  exact bodyPost_ret (v := .agg #[.int .i64 22, .int .i64 ((places.length : Int) - 1), .int .i64 0, .bool false]) (by simp [results, Try.results72, go_sem]) rfl ⟨rfl, ((Only.refl [] w).alloc _).alloc _⟩
end Go.Proofs.Ytefkhkbkengniaa
