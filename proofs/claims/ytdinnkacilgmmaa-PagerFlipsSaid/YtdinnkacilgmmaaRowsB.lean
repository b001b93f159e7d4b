/- Rows of byte rows: SameAll. -/
import Derived.Test.YtdinnkacilgmmaaJourZ
import Derived.Test.YtdinnkacilgmmaaOrd
namespace Go.Proofs.Ytdinnkacilgmmaa
open Go.RowKit

/-- what a slice of slices reads as -/
def RowsAt (w : World) (a : Option Addr) (xs : List Value) : Prop :=
  xs ≠ [] → ∃ b off, a = some ⟨b, off, none⟩ ∧ ∀ j (h : j < xs.length), w.cell? ⟨b, off + j, none⟩ = some xs[j]
/-- a slice value that reads as bytes -/
def SlB (w : World) (x : Value) (l : List UInt8) : Prop := ∃ a cap, x = .slice a l.length cap ∧ BytesAt w a l ∧ (a = none → cap = 0)
/-- a slice of slices that reads as rows of bytes -/
def RdBB (w : World) (a : Option Addr) (ls : List (List UInt8)) : Prop := ∃ xs, xs.length = ls.length ∧ RowsAt w a xs ∧ ∀ i (h : i < xs.length) (h2 : i < ls.length), SlB w xs[i] ls[i]

theorem SlB.mod {F : Nat → Prop} {w w' : World} {x : Value} {l : List UInt8} (h : SlB w x l) (hm : Mod F w w') (hF : ∀ a n c, x = .slice (some a) n c → l ≠ [] → ¬ F a.block) : SlB w' x l := by
  obtain ⟨a, cap, rfl, h1, h2⟩ := h
  exact ⟨a, cap, rfl, h1.mod hm (fun y hy hl => by subst hy; exact hF y _ _ rfl hl), h2⟩
theorem SlB.str {w : World} {x : Value} {l : List UInt8} (h : SlB w x l) : (convert 22 9 x).run Try.prog w = .ok (.string ⟨l.toArray⟩) w := by
  obtain ⟨a, cap, rfl, h1, -⟩ := h
  exact run_str h1 l.length cap rfl
theorem SlB.still {w w' : World} {x : Value} {l : List UInt8} (h : SlB w x l) (hm : Mod (fun _ => False) w w') : SlB w' x l := h.mod hm (fun _ _ _ _ _ => id)
theorem RowsAt.mod {F : Nat → Prop} {w w' : World} {a : Option Addr} {xs : List Value} (h : RowsAt w a xs) (hm : Mod F w w') (hF : ∀ y, a = some y → xs ≠ [] → ¬ F y.block) : RowsAt w' a xs := by
  intro hl
  obtain ⟨b, off, rfl, hc⟩ := h hl
  exact ⟨b, off, rfl, fun j hj => hm.cell' (hc j hj) (hF ⟨b, off, none⟩ rfl hl)⟩
theorem RdBB.still {w w' : World} {a : Option Addr} {ls : List (List UInt8)} (h : RdBB w a ls) (hm : Mod (fun _ => False) w w') : RdBB w' a ls := by
  obtain ⟨xs, h1, h2, h3⟩ := h
  exact ⟨xs, h1, h2.mod hm (fun _ _ _ => id), fun i hi hi2 => (h3 i hi hi2).still hm⟩
theorem RdBB.nil (w : World) (a : Option Addr) : RdBB w a [] := ⟨[], rfl, fun h => absurd rfl h, fun i h => by simp at h⟩
/-- one of them -/
theorem RdBB.here {w : World} {a : Option Addr} {ls : List (List UInt8)} (h : RdBB w a ls) {i : Nat} (hi : i < ls.length) : ∃ b off x, a = some ⟨b, off, none⟩ ∧ w.cell? ⟨b, off + i, none⟩ = some x ∧ SlB w x ls[i] := by
  obtain ⟨xs, h1, h2, h3⟩ := h
  have hx : i < xs.length := by omega
  obtain ⟨b, off, e, hc⟩ := h2 (by intro e; rw [e] at hx; simp at hx)
  exact ⟨b, off, xs[i], e, hc i hx, h3 i hx hi⟩
theorem OBB.rd {w : World} {B : Nat} {v : Value} {ls : List (List UInt8)} {G : Nat → Prop} (h : OBB w B v ls G) : ∃ a cap, v = .slice a ls.length cap ∧ RdBB w a ls := by
  obtain ⟨xs, h1, h2, h3, -⟩ := h
  obtain ⟨a, cap, e, -, -, -⟩ := owns_shape h1
  refine ⟨a, cap, by rw [← h2]; exact e, xs, h2, fun hne => ?_, fun i hi hi2 => ?_⟩
  · rcases h1.2 with ⟨e1, e2⟩ | ⟨g, cap', cur, e1, -, hg, -, -, -, hrow⟩
    · exact absurd (List.eq_nil_of_length_eq_zero e2) hne
    · rw [e] at e1
      cases e1
      refine ⟨g, 0, rfl, fun j hj => ?_⟩
      rw [cell_of_row w g (0 + j) cur 22 (0, 0) hg]
      have h8 := congrArg (fun x => x[j]?) hrow
      simp only [List.getElem?_take, Nat.mul_one, hj, if_true, Nat.zero_add] at h8 ⊢
      rw [← Array.getElem?_toList, h8, List.getElem?_eq_getElem hj]
  · obtain ⟨a', c', e', -, -, hb⟩ := (h3 i hi hi2).shape
    refine ⟨a', c', e', hb, fun hn => ?_⟩
    subst hn
    rcases (h3 i hi hi2).2 with ⟨e1, -⟩ | ⟨g, cap', cur, e1, -⟩
    · have e2 := e'.symm.trans e1
      injection e2
    · rw [e'] at e1; cases e1

set_option maxHeartbeats 2000000 in
set_option maxRecDepth 100000 in
theorem sameall_any (w : World) (a b : Option Addr) (ls ms : List (List UInt8)) (n m ca cb : Nat) (hn : ls.length = n) (hm : ms.length = m) (hmax : ls.length ≤ 140737488351232) (ha : RdBB w a ls) (hb : RdBB w b ms) :
    Calls Try.prog 56 #[.slice a n ca, .slice b m cb] w fun e w' => e = .returned (.bool (decide (ls = ms))) ∧ Mod (fun _ => False) w w' := by
  subst hn hm
  obtain ⟨r, hr⟩ : ∃ r, r = decide (ls = ms) := ⟨_, rfl⟩
  rw [← hr]
  have HR := Lib.hid hr
  clear hr
  by_cases hlen : ls.length = ms.length
  · have hlen' : (ls.length : Int) = (ms.length : Int) := by omega
    go_enter Try.func56, Try.ntmps56
    go_wp2_with fail
    go_loopw [5] (fun v5 wr => ∃ i : Nat, i ≤ ls.length ∧ v5 = .int .i64 (i : Int) ∧ ls.take i = ms.take i ∧ Mod (fun _ => False) w wr) (fun v5 _ => ls.length - (intOf v5).toNat)
    case atStart => exact ⟨0, Nat.zero_le _, rfl, rfl, Mod.refl _ _⟩
    case round =>
      obtain ⟨i, hi, rfl, htk, hm⟩ := hrel
      by_cases hlt : i < ls.length
      · have hlt' : (i : Int) < (ls.length : Int) := by omega
        have hlt2 : i < ms.length := by omega
        have hlt3 : (i : Int) < (ms.length : Int) := by omega
        obtain ⟨ba, oa, xa, rfl, hxa, hsa⟩ := (ha.still hm).here hlt
        obtain ⟨bb, ob, xb, rfl, hxb, hsb⟩ := (hb.still hm).here hlt2
        have CA : ∀ w', Mod (fun _ => False) wr w' → w'.cell? ⟨ba, oa + i, none⟩ = some xa := fun w' h => h.cell' hxa id
        have CB : ∀ w', Mod (fun _ => False) wr w' → w'.cell? ⟨bb, ob + i, none⟩ = some xb := fun w' h => h.cell' hxb id
        have SA : ∀ w', Mod (fun _ => False) wr w' → (convert 22 9 xa).run Try.prog w' = .ok (.string ⟨ls[i].toArray⟩) w' := fun w' h => (hsa.still h).str
        have SB : ∀ w', Mod (fun _ => False) wr w' → (convert 22 9 xb).run Try.prog w' = .ok (.string ⟨ms[i].toArray⟩) w' := fun w' h => (hsb.still h).str
        have t1 : ls.take (i + 1) = ls.take i ++ [ls[i]] := List.take_succ_eq_append_getElem hlt
        have t2 : ms.take (i + 1) = ms.take i ++ [ms[i]] := List.take_succ_eq_append_getElem hlt2
        have HT := Lib.hid htk
        have T1 := Lib.hid t1
        have T2 := Lib.hid t2
        have hne0 : ls[i] ≠ ms[i] → ls ≠ ms := fun h e => h (by subst e; rfl)
        clear ha hb hsa hsb t1 t2 htk hxa hxb
        have HNE := Lib.hid hne0
        clear hne0
        generalize ls[i] = l1 at *
        generalize ms[i] = l2 at *
        by_cases hs : l1 = l2
        · subst hs
          go_upto_region 6 with fail
          refine wp_region_held_drew (S := fun w' => Mod (fun _ => False) wr w') (by kernel_rfl) (Mod.drew _ _) (fun hHeld => ?_)
          refine wpAnyH_take (i := 0) (oi := { dst := some 17, op := Op.move (Operand.tmp 0), type := 66, pos := "ref.go:82", after := #[], guard := none }) (v := ?_) rfl (by kernel_rfl) (by kernel_rfl) (by kernel_rfl) (fun _ _ _ h => h) (Or.inl ⟨by rfl, ?_⟩) (by assumption) ?_
          rotate_left
          · (intro w hSw; (try dsimp only at hSw); go_simp; try with_reducible rfl)
          simp only [Act.put, List.setIfInBounds_toArray, List.set_cons_zero, List.set_cons_succ]
          refine wpAnyH_take (i := 1) (oi := { dst := some 18, op := Op.move (Operand.tmp 5), type := 3, pos := "ref.go:82", after := #[], guard := none }) (v := ?_) rfl (by kernel_rfl) (by kernel_rfl) (by kernel_rfl) (fun _ _ _ h => h) (Or.inl ⟨by rfl, ?_⟩) (by assumption) ?_
          rotate_left
          · (intro w hSw; (try dsimp only at hSw); go_simp; try with_reducible rfl)
          simp only [Act.put, List.setIfInBounds_toArray, List.set_cons_zero, List.set_cons_succ]
          refine wpAnyH_take (i := 2) (oi := { dst := some 19, op := Op.indexAddr 66 (Operand.tmp 17) (Operand.tmp 18), type := 0, pos := "ref.go:82", after := #[{ on := 0, ground := Ground.data }, { on := 1, ground := Ground.data }], guard := none }) (v := ?_) rfl (by kernel_rfl) (by kernel_rfl) (by kernel_rfl) (fun _ _ _ h => h) (Or.inl ⟨by rfl, ?_⟩) (by assumption) ?_
          rotate_left
          · (intro w hSw; (try dsimp only at hSw); go_simp; try with_reducible rfl)
          simp only [Act.put, List.setIfInBounds_toArray, List.set_cons_zero, List.set_cons_succ]
          refine wpAnyH_take (i := 3) (oi := { dst := some 20, op := Op.load 22 (Operand.tmp 19), type := 22, pos := "ref.go:82", after := #[{ on := 2, ground := Ground.data }], guard := none }) (v := ?_) rfl (by kernel_rfl) (by kernel_rfl) (by kernel_rfl) (fun _ _ _ h => h) (Or.inl ⟨by rfl, ?_⟩) (by assumption) ?_
          rotate_left
          · (intro w hSw; (try dsimp only at hSw); go_simp; try with_reducible rfl)
          simp only [Act.put, List.setIfInBounds_toArray, List.set_cons_zero, List.set_cons_succ]
          refine wpAnyH_take (i := 4) (oi := { dst := some 21, op := Op.convert 22 9 (Operand.tmp 20), type := 9, pos := "ref.go:82", after := #[{ on := 3, ground := Ground.data }], guard := none }) (v := ?_) rfl (by kernel_rfl) (by kernel_rfl) (by kernel_rfl) (fun _ _ _ h => h) (Or.inl ⟨by rfl, ?_⟩) (by assumption) ?_
          rotate_left
          · (intro w hSw; (try dsimp only at hSw); go_simp; try with_reducible rfl)
          simp only [Act.put, List.setIfInBounds_toArray, List.set_cons_zero, List.set_cons_succ]
          refine wpAnyH_take (i := 5) (oi := { dst := some 22, op := Op.move (Operand.tmp 1), type := 66, pos := "ref.go:82", after := #[], guard := none }) (v := ?_) rfl (by kernel_rfl) (by kernel_rfl) (by kernel_rfl) (fun _ _ _ h => h) (Or.inl ⟨by rfl, ?_⟩) (by assumption) ?_
          rotate_left
          · (intro w hSw; (try dsimp only at hSw); go_simp; try with_reducible rfl)
          simp only [Act.put, List.setIfInBounds_toArray, List.set_cons_zero, List.set_cons_succ]
          refine wpAnyH_take (i := 6) (oi := { dst := some 23, op := Op.move (Operand.tmp 5), type := 3, pos := "ref.go:82", after := #[], guard := none }) (v := ?_) rfl (by kernel_rfl) (by kernel_rfl) (by kernel_rfl) (fun _ _ _ h => h) (Or.inl ⟨by rfl, ?_⟩) (by assumption) ?_
          rotate_left
          · (intro w hSw; (try dsimp only at hSw); go_simp; try with_reducible rfl)
          simp only [Act.put, List.setIfInBounds_toArray, List.set_cons_zero, List.set_cons_succ]
          refine wpAnyH_take (i := 7) (oi := { dst := some 24, op := Op.indexAddr 66 (Operand.tmp 22) (Operand.tmp 23), type := 0, pos := "ref.go:82", after := #[{ on := 5, ground := Ground.data }, { on := 6, ground := Ground.data }], guard := none }) (v := ?_) rfl (by kernel_rfl) (by kernel_rfl) (by kernel_rfl) (fun _ _ _ h => h) (Or.inl ⟨by rfl, ?_⟩) (by assumption) ?_
          rotate_left
          · (intro w hSw; (try dsimp only at hSw); go_simp; try with_reducible rfl)
          simp only [Act.put, List.setIfInBounds_toArray, List.set_cons_zero, List.set_cons_succ]
          refine wpAnyH_take (i := 8) (oi := { dst := some 25, op := Op.load 22 (Operand.tmp 24), type := 22, pos := "ref.go:82", after := #[{ on := 7, ground := Ground.data }], guard := none }) (v := ?_) rfl (by kernel_rfl) (by kernel_rfl) (by kernel_rfl) (fun _ _ _ h => h) (Or.inl ⟨by rfl, ?_⟩) (by assumption) ?_
          rotate_left
          · (intro w hSw; (try dsimp only at hSw); go_simp; try with_reducible rfl)
          simp only [Act.put, List.setIfInBounds_toArray, List.set_cons_zero, List.set_cons_succ]
          refine wpAnyH_take (i := 9) (oi := { dst := some 26, op := Op.convert 22 9 (Operand.tmp 25), type := 9, pos := "ref.go:82", after := #[{ on := 8, ground := Ground.data }], guard := none }) (v := ?_) rfl (by kernel_rfl) (by kernel_rfl) (by kernel_rfl) (fun _ _ _ h => h) (Or.inl ⟨by rfl, ?_⟩) (by assumption) ?_
          rotate_left
          · (intro w hSw; (try dsimp only at hSw); go_simp; try with_reducible rfl)
          simp only [Act.put, List.setIfInBounds_toArray, List.set_cons_zero, List.set_cons_succ]
          refine wpAnyH_take (i := 10) (oi := { dst := some 27, op := Op.binOp BinOp.neq 9 (Operand.tmp 21) (Operand.tmp 26) 9, type := 4, pos := "ref.go:82", after := #[{ on := 4, ground := Ground.data }, { on := 9, ground := Ground.data }], guard := none }) (v := ?_) rfl (by kernel_rfl) (by kernel_rfl) (by kernel_rfl) (fun _ _ _ h => h) (Or.inl ⟨by rfl, ?_⟩) (by assumption) ?_
          rotate_left
          · (intro w hSw; (try dsimp only at hSw); go_simp; try with_reducible rfl)
          simp only [Act.put, List.setIfInBounds_toArray, List.set_cons_zero, List.set_cons_succ]
          refine wpAnyH_done (by kernel_rfl) ?_ _
          go_wp2
          go_roundw
          case rel => exact ⟨i + 1, by omega, by go_num, by rw [T1.out, T2.out, HT.out], hm.trans' (Mod.drew _ _)⟩
          case measure => simp [intOf]; omega

        · have hs2 : (l1 == l2) = false := by simpa using hs
          go_upto_region 6 with fail
          refine wp_region_held_drew (S := fun w' => Mod (fun _ => False) wr w') (by kernel_rfl) (Mod.drew _ _) (fun hHeld => ?_)
          refine wpAnyH_take (i := 0) (oi := { dst := some 17, op := Op.move (Operand.tmp 0), type := 66, pos := "ref.go:82", after := #[], guard := none }) (v := ?_) rfl (by kernel_rfl) (by kernel_rfl) (by kernel_rfl) (fun _ _ _ h => h) (Or.inl ⟨by rfl, ?_⟩) (by assumption) ?_
          rotate_left
          · (intro w hSw; (try dsimp only at hSw); go_simp; try with_reducible rfl)
          simp only [Act.put, List.setIfInBounds_toArray, List.set_cons_zero, List.set_cons_succ]
          refine wpAnyH_take (i := 1) (oi := { dst := some 18, op := Op.move (Operand.tmp 5), type := 3, pos := "ref.go:82", after := #[], guard := none }) (v := ?_) rfl (by kernel_rfl) (by kernel_rfl) (by kernel_rfl) (fun _ _ _ h => h) (Or.inl ⟨by rfl, ?_⟩) (by assumption) ?_
          rotate_left
          · (intro w hSw; (try dsimp only at hSw); go_simp; try with_reducible rfl)
          simp only [Act.put, List.setIfInBounds_toArray, List.set_cons_zero, List.set_cons_succ]
          refine wpAnyH_take (i := 2) (oi := { dst := some 19, op := Op.indexAddr 66 (Operand.tmp 17) (Operand.tmp 18), type := 0, pos := "ref.go:82", after := #[{ on := 0, ground := Ground.data }, { on := 1, ground := Ground.data }], guard := none }) (v := ?_) rfl (by kernel_rfl) (by kernel_rfl) (by kernel_rfl) (fun _ _ _ h => h) (Or.inl ⟨by rfl, ?_⟩) (by assumption) ?_
          rotate_left
          · (intro w hSw; (try dsimp only at hSw); go_simp; try with_reducible rfl)
          simp only [Act.put, List.setIfInBounds_toArray, List.set_cons_zero, List.set_cons_succ]
          refine wpAnyH_take (i := 3) (oi := { dst := some 20, op := Op.load 22 (Operand.tmp 19), type := 22, pos := "ref.go:82", after := #[{ on := 2, ground := Ground.data }], guard := none }) (v := ?_) rfl (by kernel_rfl) (by kernel_rfl) (by kernel_rfl) (fun _ _ _ h => h) (Or.inl ⟨by rfl, ?_⟩) (by assumption) ?_
          rotate_left
          · (intro w hSw; (try dsimp only at hSw); go_simp; try with_reducible rfl)
          simp only [Act.put, List.setIfInBounds_toArray, List.set_cons_zero, List.set_cons_succ]
          refine wpAnyH_take (i := 4) (oi := { dst := some 21, op := Op.convert 22 9 (Operand.tmp 20), type := 9, pos := "ref.go:82", after := #[{ on := 3, ground := Ground.data }], guard := none }) (v := ?_) rfl (by kernel_rfl) (by kernel_rfl) (by kernel_rfl) (fun _ _ _ h => h) (Or.inl ⟨by rfl, ?_⟩) (by assumption) ?_
          rotate_left
          · (intro w hSw; (try dsimp only at hSw); go_simp; try with_reducible rfl)
          simp only [Act.put, List.setIfInBounds_toArray, List.set_cons_zero, List.set_cons_succ]
          refine wpAnyH_take (i := 5) (oi := { dst := some 22, op := Op.move (Operand.tmp 1), type := 66, pos := "ref.go:82", after := #[], guard := none }) (v := ?_) rfl (by kernel_rfl) (by kernel_rfl) (by kernel_rfl) (fun _ _ _ h => h) (Or.inl ⟨by rfl, ?_⟩) (by assumption) ?_
          rotate_left
          · (intro w hSw; (try dsimp only at hSw); go_simp; try with_reducible rfl)
          simp only [Act.put, List.setIfInBounds_toArray, List.set_cons_zero, List.set_cons_succ]
          refine wpAnyH_take (i := 6) (oi := { dst := some 23, op := Op.move (Operand.tmp 5), type := 3, pos := "ref.go:82", after := #[], guard := none }) (v := ?_) rfl (by kernel_rfl) (by kernel_rfl) (by kernel_rfl) (fun _ _ _ h => h) (Or.inl ⟨by rfl, ?_⟩) (by assumption) ?_
          rotate_left
          · (intro w hSw; (try dsimp only at hSw); go_simp; try with_reducible rfl)
          simp only [Act.put, List.setIfInBounds_toArray, List.set_cons_zero, List.set_cons_succ]
          refine wpAnyH_take (i := 7) (oi := { dst := some 24, op := Op.indexAddr 66 (Operand.tmp 22) (Operand.tmp 23), type := 0, pos := "ref.go:82", after := #[{ on := 5, ground := Ground.data }, { on := 6, ground := Ground.data }], guard := none }) (v := ?_) rfl (by kernel_rfl) (by kernel_rfl) (by kernel_rfl) (fun _ _ _ h => h) (Or.inl ⟨by rfl, ?_⟩) (by assumption) ?_
          rotate_left
          · (intro w hSw; (try dsimp only at hSw); go_simp; try with_reducible rfl)
          simp only [Act.put, List.setIfInBounds_toArray, List.set_cons_zero, List.set_cons_succ]
          refine wpAnyH_take (i := 8) (oi := { dst := some 25, op := Op.load 22 (Operand.tmp 24), type := 22, pos := "ref.go:82", after := #[{ on := 7, ground := Ground.data }], guard := none }) (v := ?_) rfl (by kernel_rfl) (by kernel_rfl) (by kernel_rfl) (fun _ _ _ h => h) (Or.inl ⟨by rfl, ?_⟩) (by assumption) ?_
          rotate_left
          · (intro w hSw; (try dsimp only at hSw); go_simp; try with_reducible rfl)
          simp only [Act.put, List.setIfInBounds_toArray, List.set_cons_zero, List.set_cons_succ]
          refine wpAnyH_take (i := 9) (oi := { dst := some 26, op := Op.convert 22 9 (Operand.tmp 25), type := 9, pos := "ref.go:82", after := #[{ on := 8, ground := Ground.data }], guard := none }) (v := ?_) rfl (by kernel_rfl) (by kernel_rfl) (by kernel_rfl) (fun _ _ _ h => h) (Or.inl ⟨by rfl, ?_⟩) (by assumption) ?_
          rotate_left
          · (intro w hSw; (try dsimp only at hSw); go_simp; try with_reducible rfl)
          simp only [Act.put, List.setIfInBounds_toArray, List.set_cons_zero, List.set_cons_succ]
          refine wpAnyH_take (i := 10) (oi := { dst := some 27, op := Op.binOp BinOp.neq 9 (Operand.tmp 21) (Operand.tmp 26) 9, type := 4, pos := "ref.go:82", after := #[{ on := 4, ground := Ground.data }, { on := 9, ground := Ground.data }], guard := none }) (v := ?_) rfl (by kernel_rfl) (by kernel_rfl) (by kernel_rfl) (fun _ _ _ h => h) (Or.inl ⟨by rfl, ?_⟩) (by assumption) ?_
          rotate_left
          · (intro w hSw; (try dsimp only at hSw); go_simp; try with_reducible rfl)
          simp only [Act.put, List.setIfInBounds_toArray, List.set_cons_zero, List.set_cons_succ]
          refine wpAnyH_done (by kernel_rfl) ?_ _
          go_wp2
          go_ret
          exact ⟨ret_val (by show Value.bool _ = _; rw [HR.out]; simp [HNE.out hs]), hm.trans' (Mod.drew _ _)⟩

      · have hil : i = ls.length := by omega
        have e : ls = ms := by
          rw [hil, List.take_length] at htk
          rw [htk, hlen, List.take_length]
        go_wp2
        go_ret
        exact ⟨ret_val (by show Value.bool _ = _; rw [HR.out]; simp [e]), hm⟩
  · have hlen' : ¬ (ls.length : Int) = (ms.length : Int) := by omega
    have e : decide (ls = ms) = false := by simp; intro e; exact hlen (by rw [e])
    have HE := Lib.hid e
    clear e
    go_enter Try.func56, Try.ntmps56
    go_wp2
    go_ret
    exact ⟨ret_val (by show Value.bool _ = _; rw [HR.out, HE.out]), Mod.refl _ _⟩
end Go.Proofs.Ytdinnkacilgmmaa
