/- Walks: (*Plan).Piece, (*Plan).Choose. Condition: the plan lies in memory as way.Of leaves it; the slice of nodes lies below the call's own blocks. -/
import Derived.Test.YtddfdmopaeghnacGreatDoorOfQ
import Derived.Test.YtddfdmopaeghnacGreatDoorShelf
import Derived.BigQuiet
import Derived.Deep.QuietTactic
import Derived.IntWalk
import Derived.Deep.RegionHeld3
import Derived.Laws.Concat
import Derived.Laws.ResultCell
namespace Go.Proofs.YtddfdmopaeghnacGreatDoor
open Go.RowKit

theorem repeat_blanks (n : Nat) : (⟨(Lib.repeatL (⟨#[32]⟩ : ByteArray).data.toList n).toArray⟩ : ByteArray) = blanksB n := by
  have h : Lib.repeatL [32] n = List.replicate n (32 : UInt8) := by
    induction n with
    | zero => rfl
    | succ n ih => simp [Lib.repeatL, List.replicate_succ] at ih ⊢; try exact ih
  show (⟨(Lib.repeatL [32] n).toArray⟩ : ByteArray) = _
  rw [h]; rfl

set_option maxRecDepth 100000 in
set_option maxHeartbeats 2000000 in
/-- A node without a choice. -/
theorem piece_word {l : List Nd} {x : D} (hd : Doc l x) {gp : Nat} {A : Option Addr} {c k : Nat} {t : ByteArray} {n : Int} (w : World) (hp : IsPlan w gp A c l) (hl : Nds w w.heap.size A l) (hk : k < l.length) (hnd : l[k] = ⟨1, t, n⟩) :
    Calls Tryz.prog 51 #[.pointer (some ⟨gp, 0, none⟩), .int .i64 k] w (Ret w (.tuple #[.string t, .int .i64 (nextAt l k : Nat), .bool false])) := by
  obtain ⟨gn, gd, ge, gf, gi, cf, ci, hp⟩ := hp
  obtain ⟨b, off, op, t', n', rfl, hb, hnd', hts, d1, d2, d3⟩ := hl.node (Below.refl _ _) hk
  rw [hnd] at hnd'
  cases hnd'
  have h400 := hd.len
  have e0 := hp.c0
  have e1 := hp.c1
  have x1 := hp.nx k hk
  have g1 := hp.lp
  have g2 := hp.ln
  generalize nextAt l k = Nx at *
  have k6 : (k : Int) < (l.length : Int) := by omega
  clear hp hl hd hnd
  go_enter Tryz.func51, Tryz.ntmps51
  go_wp2
  go_quiet (fail)
  go_wp2
  go_ret3
  exact ⟨rfl, (by repeat (first | exact Below.refl _ _ | assumption | apply Below.drew | refine below_drewN ?_ _ | apply Below.setCell _ (by first | omega | (simp; done) | (simp; omega)) | apply Below.alloc _ (by first | omega | (simp; done) | (simp; omega))))⟩

set_option maxRecDepth 100000 in
set_option maxHeartbeats 2000000 in
theorem piece_zero {l : List Nd} {x : D} (hd : Doc l x) {gp : Nat} {A : Option Addr} {c k : Nat} {t : ByteArray} {n : Int} (w : World) (hp : IsPlan w gp A c l) (hl : Nds w w.heap.size A l) (hk : k < l.length) (hnd : l[k] = ⟨5, t, n⟩) :
    Calls Tryz.prog 51 #[.pointer (some ⟨gp, 0, none⟩), .int .i64 k] w (Ret w (.tuple #[.string .empty, .int .i64 (nextAt l k : Nat), .bool false])) := by
  obtain ⟨gn, gd, ge, gf, gi, cf, ci, hp⟩ := hp
  obtain ⟨b, off, op, t', n', rfl, hb, hnd', hts, d1, d2, d3⟩ := hl.node (Below.refl _ _) hk
  rw [hnd] at hnd'
  cases hnd'
  have h400 := hd.len
  have e0 := hp.c0
  have e1 := hp.c1
  have x1 := hp.nx k hk
  have g1 := hp.lp
  have g2 := hp.ln
  generalize nextAt l k = Nx at *
  have k6 : (k : Int) < (l.length : Int) := by omega
  clear hp hl hd hnd
  go_enter Tryz.func51, Tryz.ntmps51
  go_wp2
  go_quiet (fail)
  go_wp2
  go_ret3
  exact ⟨rfl, (by repeat (first | exact Below.refl _ _ | assumption | apply Below.drew | refine below_drewN ?_ _ | apply Below.setCell _ (by first | omega | (simp; done) | (simp; omega)) | apply Below.alloc _ (by first | omega | (simp; done) | (simp; omega))))⟩

set_option maxRecDepth 100000 in
set_option maxHeartbeats 2000000 in
theorem piece_part {l : List Nd} {x : D} (hd : Doc l x) {gp : Nat} {A : Option Addr} {c k : Nat} {op n : Int} {t : ByteArray} (w : World) (hp : IsPlan w gp A c l) (hl : Nds w w.heap.size A l) (hk : k < l.length) (hnd : l[k] = ⟨op, t, n⟩) (ho : op = 6 ∨ op = 7) :
    Calls Tryz.prog 51 #[.pointer (some ⟨gp, 0, none⟩), .int .i64 k] w (Ret w (.tuple #[.string .empty, .int .i64 ((k + 1 : Nat)), .bool false])) := by
  obtain ⟨gn, gd, ge, gf, gi, cf, ci, hp⟩ := hp
  obtain ⟨b, off, op', t', n', rfl, hb, hnd', hts, d1, d2, d3⟩ := hl.node (Below.refl _ _) hk
  rw [hnd] at hnd'
  cases hnd'
  have h400 := hd.len
  have e0 := hp.c0
  have g1 := hp.lp
  have k6 : (k : Int) < (l.length : Int) := by omega
  clear hp hl hd hnd
  rcases ho with rfl | rfl
  all_goals
    go_enter Tryz.func51, Tryz.ntmps51
    go_wp2
    go_ret3
    exact ⟨rfl, (by repeat (first | exact Below.refl _ _ | assumption | apply Below.drew | refine below_drewN ?_ _ | apply Below.setCell _ (by first | omega | (simp; done) | (simp; omega)) | apply Below.alloc _ (by first | omega | (simp; done) | (simp; omega))))⟩

set_option maxRecDepth 100000 in
set_option maxHeartbeats 2000000 in
theorem piece_choice {l : List Nd} {x : D} (hd : Doc l x) {gp : Nat} {A : Option Addr} {c k : Nat} {op n : Int} {t : ByteArray} (w : World) (hp : IsPlan w gp A c l) (hl : Nds w w.heap.size A l) (hk : k < l.length) (hnd : l[k] = ⟨op, t, n⟩) (ho : op = 8 ∨ op = 9) :
    Calls Tryz.prog 51 #[.pointer (some ⟨gp, 0, none⟩), .int .i64 k] w (Ret w (.tuple #[.string .empty, .int .i64 (k : Nat), .bool true])) := by
  obtain ⟨gn, gd, ge, gf, gi, cf, ci, hp⟩ := hp
  obtain ⟨b, off, op', t', n', rfl, hb, hnd', hts, d1, d2, d3⟩ := hl.node (Below.refl _ _) hk
  rw [hnd] at hnd'
  cases hnd'
  have h400 := hd.len
  have e0 := hp.c0
  have g1 := hp.lp
  have k6 : (k : Int) < (l.length : Int) := by omega
  clear hp hl hd hnd
  rcases ho with rfl | rfl
  all_goals
    go_enter Tryz.func51, Tryz.ntmps51
    go_wp2
    go_ret3
    exact ⟨rfl, (by repeat (first | exact Below.refl _ _ | assumption | apply Below.drew | refine below_drewN ?_ _ | apply Below.setCell _ (by first | omega | (simp; done) | (simp; omega)) | apply Below.alloc _ (by first | omega | (simp; done) | (simp; omega))))⟩

set_option maxRecDepth 100000 in
set_option maxHeartbeats 2000000 in
theorem piece_line {l : List Nd} {x : D} (hd : Doc l x) {gp : Nat} {A : Option Addr} {c k : Nat} {op n : Int} {t : ByteArray} (w : World) (hp : IsPlan w gp A c l) (hl : Nds w w.heap.size A l) (hk : k < l.length) (hnd : l[k] = ⟨op, t, n⟩) (ho : op = 2 ∨ op = 3 ∨ op = 4) :
    Calls Tryz.prog 51 #[.pointer (some ⟨gp, 0, none⟩), .int .i64 k] w (Ret w (.tuple #[.string (⟨#[10]⟩ ++ blanksB (deepAt l k).toNat), .int .i64 (nextAt l k : Nat), .bool false])) := by
  obtain ⟨gn, gd, ge, gf, gi, cf, ci, hp⟩ := hp
  obtain ⟨b, off, op', t', n', rfl, hb, hnd', hts, d1, d2, d3⟩ := hl.node (Below.refl _ _) hk
  rw [hnd] at hnd'
  cases hnd'
  have h400 := hd.len
  obtain ⟨hd0, hd1⟩ := hd.deep_bd k hk
  obtain ⟨dn, hdn⟩ : ∃ dn : Nat, deepAt l k = (dn : Int) := ⟨(deepAt l k).toNat, by omega⟩
  have x2 := hp.dp k hk
  rw [hdn] at x2 hd1 ⊢
  rw [Int.toNat_natCast]
  have e0 := hp.c0
  have e1 := hp.c1
  have e2 := hp.c2
  have x1 := hp.nx k hk
  have g1 := hp.lp
  have g2 := hp.ln
  have g3 := hp.ld
  generalize nextAt l k = Nx at *
  have k6 : (k : Int) < (l.length : Int) := by omega
  have hdn2 : dn ≤ 3200 := by omega
  have HR := Lib.hid (fun w' => Tryz.strings_Repeat ⟨#[32]⟩ dn w' (by omega) (by show 1 * dn ≤ _; omega))
  rw [repeat_blanks] at HR
  clear hp hl hd hnd hdn hd0 hd1
  have hbz : (blanksB dn).size = dn := by simp [blanksB, ByteArray.size]
  have hbz2 : (blanksB dn).size ≤ 3200 := by omega
  clear hbz
  generalize blanksB dn = BL at *
  rcases ho with rfl | rfl | rfl
  · go_enter Tryz.func51, Tryz.ntmps51
    go_wp2
    obtain ⟨wa, hwa⟩ : ∃ wa, wa = w.alloc (.cells #[.int .i64 2, .string t, .int .i64 n] 157) := ⟨_, rfl⟩
    rw [← hwa]
    have hBa : Below w.heap.size w wa := by rw [hwa]; exact (Below.refl _ _).alloc (Nat.le_refl _) _
    have a1 := (hBa.cell (p := ⟨gp, 1, none⟩) g1).trans e1
    have a2 := (hBa.cell (p := ⟨gp, 2, none⟩) g1).trans e2
    have b1 := (hBa.cell (p := ⟨gn, k, none⟩) g2).trans x1
    have b2 := (hBa.cell (p := ⟨gd, k, none⟩) g3).trans x2
    have g1a := Nat.lt_of_lt_of_le g1 hBa.size
    have g2a := Nat.lt_of_lt_of_le g2 hBa.size
    have g3a := Nat.lt_of_lt_of_le g3 hBa.size
    clear hwa e0 e1 e2 x1 x2 d1 d2 d3
    have hcat : ∀ w', (Op.stringOp .add ⟨#[10]⟩ BL).run Tryz.prog w' = .ok (.string (⟨#[10]⟩ ++ BL)) w' := fun w' => run_string_add_sum w' ⟨#[10]⟩ BL (by show 1 + BL.size ≤ _; omega)
    go_region_held3 (fun w' => w'.cell? ⟨gp, 1, none⟩ = some (.slice (some ⟨gn, 0, none⟩) l.length l.length) ∧ w'.cell? ⟨gp, 2, none⟩ = some (.slice (some ⟨gd, 0, none⟩) l.length l.length) ∧ w'.cell? ⟨gn, k, none⟩ = some (.int .i64 (Nx : Nat)) ∧ w'.cell? ⟨gd, k, none⟩ = some (.int .i64 (dn : Nat)))
      (first | exact ⟨a1, a2, b1, b2⟩ | exact ⟨(hBj.cell (p := ⟨gp, 1, none⟩) g1a).trans a1, (hBj.cell (p := ⟨gp, 2, none⟩) g1a).trans a2, (hBj.cell (p := ⟨gn, k, none⟩) g2a).trans b1, (hBj.cell (p := ⟨gd, k, none⟩) g3a).trans b2⟩)
      (first | (go_at_call 94; refine (HR.out _).mono ?_; rintro e w3 ⟨rfl, hBj⟩))
    go_wp2
    go_ret3
    exact ⟨rfl, hBa.trans ((past_drew hBj).mono hBa.size)⟩
  · go_enter Tryz.func51, Tryz.ntmps51
    go_wp2
    obtain ⟨wa, hwa⟩ : ∃ wa, wa = w.alloc (.cells #[.int .i64 3, .string t, .int .i64 n] 157) := ⟨_, rfl⟩
    rw [← hwa]
    have hBa : Below w.heap.size w wa := by rw [hwa]; exact (Below.refl _ _).alloc (Nat.le_refl _) _
    have a1 := (hBa.cell (p := ⟨gp, 1, none⟩) g1).trans e1
    have a2 := (hBa.cell (p := ⟨gp, 2, none⟩) g1).trans e2
    have b1 := (hBa.cell (p := ⟨gn, k, none⟩) g2).trans x1
    have b2 := (hBa.cell (p := ⟨gd, k, none⟩) g3).trans x2
    have g1a := Nat.lt_of_lt_of_le g1 hBa.size
    have g2a := Nat.lt_of_lt_of_le g2 hBa.size
    have g3a := Nat.lt_of_lt_of_le g3 hBa.size
    clear hwa e0 e1 e2 x1 x2 d1 d2 d3
    have hcat : ∀ w', (Op.stringOp .add ⟨#[10]⟩ BL).run Tryz.prog w' = .ok (.string (⟨#[10]⟩ ++ BL)) w' := fun w' => run_string_add_sum w' ⟨#[10]⟩ BL (by show 1 + BL.size ≤ _; omega)
    go_region_held3 (fun w' => w'.cell? ⟨gp, 1, none⟩ = some (.slice (some ⟨gn, 0, none⟩) l.length l.length) ∧ w'.cell? ⟨gp, 2, none⟩ = some (.slice (some ⟨gd, 0, none⟩) l.length l.length) ∧ w'.cell? ⟨gn, k, none⟩ = some (.int .i64 (Nx : Nat)) ∧ w'.cell? ⟨gd, k, none⟩ = some (.int .i64 (dn : Nat)))
      (first | exact ⟨a1, a2, b1, b2⟩ | exact ⟨(hBj.cell (p := ⟨gp, 1, none⟩) g1a).trans a1, (hBj.cell (p := ⟨gp, 2, none⟩) g1a).trans a2, (hBj.cell (p := ⟨gn, k, none⟩) g2a).trans b1, (hBj.cell (p := ⟨gd, k, none⟩) g3a).trans b2⟩)
      (first | (go_at_call 94; refine (HR.out _).mono ?_; rintro e w3 ⟨rfl, hBj⟩))
    go_wp2
    go_ret3
    exact ⟨rfl, hBa.trans ((past_drew hBj).mono hBa.size)⟩
  · go_enter Tryz.func51, Tryz.ntmps51
    go_wp2
    obtain ⟨wa, hwa⟩ : ∃ wa, wa = w.alloc (.cells #[.int .i64 4, .string t, .int .i64 n] 157) := ⟨_, rfl⟩
    rw [← hwa]
    have hBa : Below w.heap.size w wa := by rw [hwa]; exact (Below.refl _ _).alloc (Nat.le_refl _) _
    have a1 := (hBa.cell (p := ⟨gp, 1, none⟩) g1).trans e1
    have a2 := (hBa.cell (p := ⟨gp, 2, none⟩) g1).trans e2
    have b1 := (hBa.cell (p := ⟨gn, k, none⟩) g2).trans x1
    have b2 := (hBa.cell (p := ⟨gd, k, none⟩) g3).trans x2
    have g1a := Nat.lt_of_lt_of_le g1 hBa.size
    have g2a := Nat.lt_of_lt_of_le g2 hBa.size
    have g3a := Nat.lt_of_lt_of_le g3 hBa.size
    clear hwa e0 e1 e2 x1 x2 d1 d2 d3
    have hcat : ∀ w', (Op.stringOp .add ⟨#[10]⟩ BL).run Tryz.prog w' = .ok (.string (⟨#[10]⟩ ++ BL)) w' := fun w' => run_string_add_sum w' ⟨#[10]⟩ BL (by show 1 + BL.size ≤ _; omega)
    go_region_held3 (fun w' => w'.cell? ⟨gp, 1, none⟩ = some (.slice (some ⟨gn, 0, none⟩) l.length l.length) ∧ w'.cell? ⟨gp, 2, none⟩ = some (.slice (some ⟨gd, 0, none⟩) l.length l.length) ∧ w'.cell? ⟨gn, k, none⟩ = some (.int .i64 (Nx : Nat)) ∧ w'.cell? ⟨gd, k, none⟩ = some (.int .i64 (dn : Nat)))
      (first | exact ⟨a1, a2, b1, b2⟩ | exact ⟨(hBj.cell (p := ⟨gp, 1, none⟩) g1a).trans a1, (hBj.cell (p := ⟨gp, 2, none⟩) g1a).trans a2, (hBj.cell (p := ⟨gn, k, none⟩) g2a).trans b1, (hBj.cell (p := ⟨gd, k, none⟩) g3a).trans b2⟩)
      (first | (go_at_call 94; refine (HR.out _).mono ?_; rintro e w3 ⟨rfl, hBj⟩))
    go_wp2
    go_ret3
    exact ⟨rfl, hBa.trans ((past_drew hBj).mono hBa.size)⟩

set_option maxRecDepth 100000 in
set_option maxHeartbeats 2000000 in
/-- One of two: the one, the other. -/
theorem choose_either {l : List Nd} {x : D} (hd : Doc l x) {gp : Nat} {A : Option Addr} {c k : Nat} {t : ByteArray} {n : Int} (w : World) (ch : Int) (hch : ch = 0 ∨ ch = 1) (hp : IsPlan w gp A c l) (hl : Nds w w.heap.size A l) (hk : k < l.length) (hnd : l[k] = ⟨9, t, n⟩) :
    Calls Tryz.prog 52 #[.pointer (some ⟨gp, 0, none⟩), .int .i64 k, .int .i64 ch] w (Ret w (.tuple #[.string .empty, .int .i64 ((if ch = 0 then k + 1 else endAt l (k + 1) : Nat)), .bool true])) := by
  obtain ⟨gn, gd, ge, gf, gi, cf, ci, hp⟩ := hp
  obtain ⟨b, off, op', t', n', rfl, hb, hnd', hts, d1, d2, d3⟩ := hl.node (Below.refl _ _) hk
  rw [hnd] at hnd'
  cases hnd'
  have h400 := hd.len
  have hp2 : parts l[k].op = 2 := by rw [hnd]; rfl
  have hkl : k + 1 < l.length := by have := hd.plan_bin hk hp2; omega
  have e0 := hp.c0
  have e3 := hp.c3
  have x3 := hp.en (k + 1) hkl
  have g1 := hp.lp
  have g2 := hp.le
  generalize endAt l (k + 1) = E at *
  have k6 : (k : Int) < (l.length : Int) := by omega
  have k5 : (k : Int) + 1 < (l.length : Int) := by omega
  clear hp hl hd hnd hp2
  rcases hch with rfl | rfl
  · rw [if_pos rfl]
    go_enter Tryz.func52, Tryz.ntmps52
    go_wp2
    go_ret3
    exact ⟨rfl, (by repeat (first | exact Below.refl _ _ | assumption | apply Below.drew | refine below_drewN ?_ _ | apply Below.setCell _ (by first | omega | (simp; done) | (simp; omega)) | apply Below.alloc _ (by first | omega | (simp; done) | (simp; omega))))⟩
  · rw [if_neg (by decide)]
    have k1 : IntKind.i64.wrap ((k : Int) + 1) = (k : Int) + 1 := IntWalk.i64_in _ (by omega)
    have k2 : (0 : Int) ≤ (k : Int) + 1 := by omega
    have k3 : ((k : Int) + 1).toNat = k + 1 := by omega
    go_enter Tryz.func52, Tryz.ntmps52
    go_wp2
    go_quiet (fail)
    go_wp2
    go_ret3
    exact ⟨rfl, (by repeat (first | exact Below.refl _ _ | assumption | apply Below.drew | refine below_drewN ?_ _ | apply Below.setCell _ (by first | omega | (simp; done) | (simp; omega)) | apply Below.alloc _ (by first | omega | (simp; done) | (simp; omega))))⟩

set_option maxRecDepth 100000 in
set_option maxHeartbeats 2000000 in
/-- In one line. -/
theorem choose_flat {l : List Nd} {x : D} (hd : Doc l x) {gp : Nat} {A : Option Addr} {c k : Nat} {t : ByteArray} {n : Int} (w : World) (hp : IsPlan w gp A c l) (hl : Nds w w.heap.size A l) (hk : k < l.length) (hnd : l[k] = ⟨8, t, n⟩) :
    Calls Tryz.prog 52 #[.pointer (some ⟨gp, 0, none⟩), .int .i64 k, .int .i64 0] w (Ret w (.tuple #[.string (lineAt l (k + 1)).1, .int .i64 (nextAt l k : Nat), .bool (lineAt l (k + 1)).2])) := by
  obtain ⟨gn, gd, ge, gf, gi, cf, ci, hp⟩ := hp
  obtain ⟨b, off, op', t', n', rfl, hb, hnd', hts, d1, d2, d3⟩ := hl.node (Below.refl _ _) hk
  rw [hnd] at hnd'
  cases hnd'
  have h400 := hd.len
  have hp2 : parts l[k].op = 1 := by rw [hnd]; rfl
  have hkl : k + 1 < l.length := (hd.plan_un hk hp2).1
  have e0 := hp.c0
  have e1 := hp.c1
  have e4 := hp.c4
  have e5 := hp.c5
  have x1 := hp.nx k hk
  have x4 := hp.fl (k + 1) hkl
  have x5 := hp.ib (k + 1) hkl
  have g1 := hp.lp
  have g2 := hp.ln
  have g4 := hp.lf
  have g5 := hp.li
  generalize lineAt l (k + 1) = L at *
  generalize nextAt l k = Nx at *
  have k6 : (k : Int) < (l.length : Int) := by omega
  have k5 : (k : Int) + 1 < (l.length : Int) := by omega
  have k1 : IntKind.i64.wrap ((k : Int) + 1) = (k : Int) + 1 := IntWalk.i64_in _ (by omega)
  have k2 : (0 : Int) ≤ (k : Int) + 1 := by omega
  have k3 : ((k : Int) + 1).toNat = k + 1 := by omega
  clear hp hl hd hnd hp2
  go_enter Tryz.func52, Tryz.ntmps52
  go_wp2
  go_quiet (fail)
  go_wp2
  go_ret3
  exact ⟨rfl, (by repeat (first | exact Below.refl _ _ | assumption | apply Below.drew | refine below_drewN ?_ _ | apply Below.setCell _ (by first | omega | (simp; done) | (simp; omega)) | apply Below.alloc _ (by first | omega | (simp; done) | (simp; omega))))⟩

set_option maxRecDepth 100000 in
set_option maxHeartbeats 2000000 in
/-- In lines. -/
theorem choose_lines {l : List Nd} {x : D} (hd : Doc l x) {gp : Nat} {A : Option Addr} {c k : Nat} {t : ByteArray} {n : Int} (w : World) (hp : IsPlan w gp A c l) (hl : Nds w w.heap.size A l) (hk : k < l.length) (hnd : l[k] = ⟨8, t, n⟩) :
    Calls Tryz.prog 52 #[.pointer (some ⟨gp, 0, none⟩), .int .i64 k, .int .i64 1] w (Ret w (.tuple #[.string .empty, .int .i64 ((k + 1 : Nat)), .bool true])) := by
  obtain ⟨gn, gd, ge, gf, gi, cf, ci, hp⟩ := hp
  obtain ⟨b, off, op', t', n', rfl, hb, hnd', hts, d1, d2, d3⟩ := hl.node (Below.refl _ _) hk
  rw [hnd] at hnd'
  cases hnd'
  have h400 := hd.len
  have e0 := hp.c0
  have g1 := hp.lp
  have k6 : (k : Int) < (l.length : Int) := by omega
  clear hp hl hd hnd
  go_enter Tryz.func52, Tryz.ntmps52
  go_wp2
  go_ret3
  exact ⟨rfl, (by repeat (first | exact Below.refl _ _ | assumption | apply Below.drew | refine below_drewN ?_ _ | apply Below.setCell _ (by first | omega | (simp; done) | (simp; omega)) | apply Below.alloc _ (by first | omega | (simp; done) | (simp; omega))))⟩
end Go.Proofs.YtddfdmopaeghnacGreatDoor
