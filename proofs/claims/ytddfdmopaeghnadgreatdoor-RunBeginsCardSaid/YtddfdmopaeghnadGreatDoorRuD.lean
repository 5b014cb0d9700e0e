/- Walk: a session's line: an arm. Conditions: the text is not too long; the tables and the variables read as the program's text lays them. Walk: a session's line: an arm. Conditions: the text is not too long; the tables and the variables read as the program's text lays them. Walk: a session's line: an arm. Conditions: the text is not too long; the tables and the variables read as the program's text lays them. Walk: a session's line: 'text'. Conditions: the tables and the variables read as the program's text lays them. -/
import Derived.Test.YtddfdmopaeghnadGreatDoorRuB
import Derived.Test.YtddfdmopaeghnadGreatDoorRuC
import Derived.Test.YtddfdmopaeghnadGreatDoorRqBe
namespace Go.Proofs.YtddfdmopaeghnadGreatDoor
open Go.RowKit
set_option maxRecDepth 100000 in
set_option maxHeartbeats 600000 in
theorem line_wide {w0 : World} {d b : Nat} {x : Ses} {F : Nat → Prop} {w : World} (h : SesAt w0 d b x F w) (hG : RunG w0) (l : ByteArray) (h1 : behindL [43] l.data.toList = none) {r : List UInt8} (hr : behindL [119, 105, 100, 101, 32] l.data.toList = some r) (hl : l.size ≤ 3000) {V : Int} (hn : numF ⟨r.toArray⟩ = some V) :
    Calls Tryz.prog 40 #[.pointer (some ⟨b, 0, none⟩), .string l] w (fun e w' => e = .returned (.string (wideS x V).2) ∧ SesTo w0 d b (wideS x V).1 F w w') := by
  obtain ⟨g0, g1'⟩ := behindL_some hr
  have g1 : Lib.hasPrefix l.data.toList (⟨#[43]⟩ : ByteArray).data.toList = false := behindL_none h1
  have g2 : Lib.hasPrefix l.data.toList (⟨#[119, 105, 100, 101, 32]⟩ : ByteArray).data.toList = true := g0
  have hlen : (⟨r.toArray⟩ : ByteArray).size ≤ 3000 := by
    have := behindL_len hr
    rw [rb_size] at this
    simp only [ByteArray.size, List.size_toArray] at this hl ⊢
    omega
  have g3 : (⟨(Lib.trimPrefix l.data.toList (⟨#[119, 105, 100, 101, 32]⟩ : ByteArray).data.toList).toArray⟩ : ByteArray) = ⟨r.toArray⟩ := by rw [g1']
  have HCP := Lib.hid (fun (p : ByteArray) (w' : World) => Tryz.strings_CutPrefix l p w')
  have HO := Lib.hid h.out
  have HGW := Lib.hid hG
  have HN := Lib.hid (fun (w' : World) (hp : PowT w') => number_ok ⟨r.toArray⟩ V w' hlen hn hp)
  clear h hG h1 hr hl hn g0 g1' hlen
  generalize (⟨r.toArray⟩ : ByteArray) = R at *
  obtain ⟨c0, f0, c2⟩ := HO.out.c0
  have hmf : ∀ (fn : Fn) (first cap : Array Value) (w : World), (Instr.makeFunc fn first cap).run Tryz.prog w = .ok (.func fn first cap) w := fun _ _ _ _ => rfl
  go_enter_defers Tryz.func40, Tryz.ntmps40
  go_upto_region 8 with (go_at_call 68; refine (HCP.out _ _).mono ?_; rintro e w1 ⟨rfl, rfl⟩; simp only [g1, g2, g3])
  go_region_held3 (fun w' => w'.cell? ⟨b, 2, none⟩ = some (.pointer (some ⟨d, 0, none⟩))) (first | exact c2 | exact e2 | exact e3 | exact e4 | exact (HO4.out.put _).c0.2.2)
    (first
    | (go_at_call 70; refine (HN.out _ ((HO.out.past (by repeat (first | exact Below.refl _ _ | assumption | apply Below.drew | refine below_drewN ?_ _ | apply Below.setCell _ (by first | omega | (simp; done) | (simp; omega)) | apply Below.alloc _ (by first | omega | (simp; done) | (simp; omega))))).run HGW.out).pow).mono ?_; rintro e w2 ⟨rfl, hB2⟩; have HO2 := Lib.hid ((HO.out.past (by repeat (first | exact Below.refl _ _ | assumption | apply Below.drew | refine below_drewN ?_ _ | apply Below.setCell _ (by first | omega | (simp; done) | (simp; omega)) | apply Below.alloc _ (by first | omega | (simp; done) | (simp; omega))))).past hB2); obtain ⟨-, -, e2⟩ := HO2.out.c0)
    | (go_at_call 11; refine ((HO2.out.past (by repeat (first | exact Below.refl _ _ | assumption | apply Below.drew | refine below_drewN ?_ _ | apply Below.setCell _ (by first | omega | (simp; done) | (simp; omega)) | apply Below.alloc _ (by first | omega | (simp; done) | (simp; omega))))).2.1.wide V ((HO2.out.past (by repeat (first | exact Below.refl _ _ | assumption | apply Below.drew | refine below_drewN ?_ _ | apply Below.setCell _ (by first | omega | (simp; done) | (simp; omega)) | apply Below.alloc _ (by first | omega | (simp; done) | (simp; omega))))).run HGW.out).max ((HO2.out.past (by repeat (first | exact Below.refl _ _ | assumption | apply Below.drew | refine below_drewN ?_ _ | apply Below.setCell _ (by first | omega | (simp; done) | (simp; omega)) | apply Below.alloc _ (by first | omega | (simp; done) | (simp; omega))))).run HGW.out).pow).mono ?_; rintro e w3 ⟨f, rfl, hS, hk⟩; have HO3 := Lib.hid ((HO2.out.past (by repeat (first | exact Below.refl _ _ | assumption | apply Below.drew | refine below_drewN ?_ _ | apply Below.setCell _ (by first | omega | (simp; done) | (simp; omega)) | apply Below.alloc _ (by first | omega | (simp; done) | (simp; omega))))).step hk); obtain ⟨-, -, e3⟩ := HO3.out.c0; clear hk; have HS2 : Hid ((wideS x V).2 = toldF ⟨#[111, 107]⟩ 0 f) := Lib.hid (by rw [hS]); clear hS; have HTO : Hid (∀ w', RunG w' → Calls Tryz.prog 69 #[.string ⟨#[111, 107]⟩, .int .i64 0, errV f] w' (Ret w' (.string (toldF ⟨#[111, 107]⟩ 0 f)))) := Lib.hid (fun w' hg => told_any ⟨#[111, 107]⟩ 0 f w' (by decide) (by omega) hg.err hg.esz hg.pow))
    | (go_at_call 69; refine (HTO.out _ ((HO3.out.past (by repeat (first | exact Below.refl _ _ | assumption | apply Below.drew | refine below_drewN ?_ _ | apply Below.setCell _ (by first | omega | (simp; done) | (simp; omega)) | apply Below.alloc _ (by first | omega | (simp; done) | (simp; omega))))).run HGW.out)).mono ?_; rintro e w4 ⟨rfl, hB4⟩; have HO4 := Lib.hid ((HO3.out.past (by repeat (first | exact Below.refl _ _ | assumption | apply Below.drew | refine below_drewN ?_ _ | apply Below.setCell _ (by first | omega | (simp; done) | (simp; omega)) | apply Below.alloc _ (by first | omega | (simp; done) | (simp; omega))))).past hB4); obtain ⟨e0, k0, e4⟩ := HO4.out.c0; generalize toldF ⟨#[111, 107]⟩ 0 f = T at *))
  all_goals go_wp2
  refine leaves_cons (f := 67) (args := #[.pointer (some ⟨w.heap.size, 0, none⟩)]) (by simp) (by simp [go_sem]) ?_
  refine (lcatch_idle _ _).mono ?_
  rintro e u' w9 ⟨rfl, rfl, hB⟩
  obtain ⟨c9, hk9⟩ := (HO4.out.put (.string T)).fin hB
  have HK := Lib.hid hk9
  clear hB hk9
  simp [Leaves, settle, results, Tryz.results40, go_sem, c9]
  exact ⟨HS2.out.symm, HK.out⟩
end Go.Proofs.YtddfdmopaeghnadGreatDoor

namespace Go.Proofs.YtddfdmopaeghnadGreatDoor
open Go.RowKit
set_option maxRecDepth 100000 in
set_option maxHeartbeats 600000 in
theorem line_unread {w0 : World} {d b : Nat} {x : Ses} {F : Nat → Prop} {w : World} (h : SesAt w0 d b x F w) (hG : RunG w0) (l : ByteArray) (h1 : behindL [43] l.data.toList = none) {r : List UInt8} (hr : behindL [119, 105, 100, 101, 32] l.data.toList = some r) (hl : l.size ≤ 3000) (hn : numF ⟨r.toArray⟩ = none) :
    Calls Tryz.prog 40 #[.pointer (some ⟨b, 0, none⟩), .string l] w (fun e w' => e = .returned (.string badT) ∧ SesTo w0 d b x F w w') := by
  obtain ⟨g0, g1'⟩ := behindL_some hr
  have g1 : Lib.hasPrefix l.data.toList (⟨#[43]⟩ : ByteArray).data.toList = false := behindL_none h1
  have g2 : Lib.hasPrefix l.data.toList (⟨#[119, 105, 100, 101, 32]⟩ : ByteArray).data.toList = true := g0
  have hlen : (⟨r.toArray⟩ : ByteArray).size ≤ 3000 := by
    have := behindL_len hr
    rw [rb_size] at this
    simp only [ByteArray.size, List.size_toArray] at this hl ⊢
    omega
  have g3 : (⟨(Lib.trimPrefix l.data.toList (⟨#[119, 105, 100, 101, 32]⟩ : ByteArray).data.toList).toArray⟩ : ByteArray) = ⟨r.toArray⟩ := by rw [g1']
  have HCP := Lib.hid (fun (p : ByteArray) (w' : World) => Tryz.strings_CutPrefix l p w')
  have HO := Lib.hid h.out
  have HS := Lib.hid h
  have HGW := Lib.hid hG
  have HN := Lib.hid (fun (w' : World) (hg : RunG w') => number_bad ⟨r.toArray⟩ w' hlen hn hg.pow hg.ers)
  clear h hG h1 hr hl hn g0 g1' hlen
  generalize (⟨r.toArray⟩ : ByteArray) = R at *
  obtain ⟨c0, f0, c2⟩ := HO.out.c0
  have hmf : ∀ (fn : Fn) (first cap : Array Value) (w : World), (Instr.makeFunc fn first cap).run Tryz.prog w = .ok (.func fn first cap) w := fun _ _ _ _ => rfl
  go_enter_defers Tryz.func40, Tryz.ntmps40
  go_upto_region 8 with (go_at_call 68; refine (HCP.out _ _).mono ?_; rintro e w1 ⟨rfl, rfl⟩; simp only [g1, g2, g3])
  have c3 : (w.alloc (.cells #[.string ⟨#[]⟩] 9)).cell? ⟨b, 2, none⟩ = some (.pointer (some ⟨d, 0, none⟩)) := c2
  refine wp_region_any (by kernel_rfl) ?_
  try (change wpAny _ _ _ _ _ _ _ (World.drew _))
  refine wpAny_ready (rs := [0, 4]) (by kernel_rfl) (by simp) ?_
  refine AllReady.cons rfl (fun K hK => ?_) ?_; go_simp; refine hK _ _ ?_; clear hK K
  refine wpAny_ready (rs := [1, 4]) (by kernel_rfl) (by simp) ?_
  refine AllReady.cons rfl (fun K hK => ?_) ?_; go_simp; refine hK _ _ ?_; clear hK K
  refine wpAny_ready (rs := [2, 4]) (by kernel_rfl) (by simp) ?_
  refine AllReady.cons rfl (fun K hK => ?_) ?_; go_simp; refine hK _ _ ?_; clear hK K
  refine wpAny_ready (rs := [3, 4]) (by kernel_rfl) (by simp) ?_
  refine AllReady.cons rfl (fun K hK => ?_) ?_; go_simp; refine hK _ _ ?_; clear hK K
  refine wpAny_ready (rs := [4]) (by kernel_rfl) (by simp) ?_
  refine AllReady.cons rfl (fun K hK => ?_) ?_; go_simp; refine hK _ _ ?_; clear hK K
  refine wpAny_ready (rs := [5]) (by kernel_rfl) (by simp) ?_
  refine AllReady.cons rfl (fun K hK => ?_) ?_; rotate_left
  exact AllReady.nil
  exact AllReady.nil
  refine AllReady.cons rfl (fun K hK => ?_) ?_; go_simp; refine hK _ _ ?_; clear hK K
  refine wpAny_ready (rs := [3, 5]) (by kernel_rfl) (by simp) ?_
  refine AllReady.cons rfl (fun K hK => ?_) ?_; go_simp; refine hK _ _ ?_; clear hK K
  refine wpAny_ready (rs := [5]) (by kernel_rfl) (by simp) ?_
  refine AllReady.cons rfl (fun K hK => ?_) ?_; rotate_left
  exact AllReady.nil
  refine AllReady.cons rfl (fun K hK => ?_) ?_; rotate_left
  exact AllReady.nil
  exact AllReady.nil
  refine AllReady.cons rfl (fun K hK => ?_) ?_; go_simp; refine hK _ _ ?_; clear hK K
  refine wpAny_ready (rs := [2, 5]) (by kernel_rfl) (by simp) ?_
  refine AllReady.cons rfl (fun K hK => ?_) ?_; go_simp; refine hK _ _ ?_; clear hK K
  refine wpAny_ready (rs := [3, 5]) (by kernel_rfl) (by simp) ?_
  refine AllReady.cons rfl (fun K hK => ?_) ?_; go_simp; refine hK _ _ ?_; clear hK K
  refine wpAny_ready (rs := [5]) (by kernel_rfl) (by simp) ?_
  refine AllReady.cons rfl (fun K hK => ?_) ?_; rotate_left
  exact AllReady.nil
  refine AllReady.cons rfl (fun K hK => ?_) ?_; rotate_left
  exact AllReady.nil
  refine AllReady.cons rfl (fun K hK => ?_) ?_; rotate_left
  exact AllReady.nil
  exact AllReady.nil
  refine AllReady.cons rfl (fun K hK => ?_) ?_; go_simp; refine hK _ _ ?_; clear hK K
  refine wpAny_ready (rs := [1, 5]) (by kernel_rfl) (by simp) ?_
  refine AllReady.cons rfl (fun K hK => ?_) ?_; go_simp; refine hK _ _ ?_; clear hK K
  refine wpAny_ready (rs := [2, 5]) (by kernel_rfl) (by simp) ?_
  refine AllReady.cons rfl (fun K hK => ?_) ?_; go_simp; refine hK _ _ ?_; clear hK K
  refine wpAny_ready (rs := [3, 5]) (by kernel_rfl) (by simp) ?_
  refine AllReady.cons rfl (fun K hK => ?_) ?_; go_simp; refine hK _ _ ?_; clear hK K
  refine wpAny_ready (rs := [5]) (by kernel_rfl) (by simp) ?_
  refine AllReady.cons rfl (fun K hK => ?_) ?_; rotate_left
  exact AllReady.nil
  refine AllReady.cons rfl (fun K hK => ?_) ?_; rotate_left
  exact AllReady.nil
  refine AllReady.cons rfl (fun K hK => ?_) ?_; rotate_left
  exact AllReady.nil
  refine AllReady.cons rfl (fun K hK => ?_) ?_; rotate_left
  exact AllReady.nil
  exact AllReady.nil
  refine AllReady.cons rfl (fun K hK => ?_) ?_; go_simp; refine hK _ _ ?_; clear hK K
  refine wpAny_ready (rs := [0, 5]) (by kernel_rfl) (by simp) ?_
  refine AllReady.cons rfl (fun K hK => ?_) ?_; go_simp; refine hK _ _ ?_; clear hK K
  refine wpAny_ready (rs := [1, 5]) (by kernel_rfl) (by simp) ?_
  refine AllReady.cons rfl (fun K hK => ?_) ?_; go_simp; refine hK _ _ ?_; clear hK K
  refine wpAny_ready (rs := [2, 5]) (by kernel_rfl) (by simp) ?_
  refine AllReady.cons rfl (fun K hK => ?_) ?_; go_simp; refine hK _ _ ?_; clear hK K
  refine wpAny_ready (rs := [3, 5]) (by kernel_rfl) (by simp) ?_
  refine AllReady.cons rfl (fun K hK => ?_) ?_; go_simp; refine hK _ _ ?_; clear hK K
  refine wpAny_ready (rs := [5]) (by kernel_rfl) (by simp) ?_
  refine AllReady.cons rfl (fun K hK => ?_) ?_; rotate_left
  exact AllReady.nil
  refine AllReady.cons rfl (fun K hK => ?_) ?_; rotate_left
  exact AllReady.nil
  refine AllReady.cons rfl (fun K hK => ?_) ?_; rotate_left
  exact AllReady.nil
  refine AllReady.cons rfl (fun K hK => ?_) ?_; rotate_left
  exact AllReady.nil
  refine AllReady.cons rfl (fun K hK => ?_) ?_; rotate_left
  exact AllReady.nil
  exact AllReady.nil
  all_goals go_simp
  all_goals go_wp2_with (go_at_call 70; refine (HN.out _ ((HO.out.past (by repeat (first | exact Below.refl _ _ | assumption | apply Below.drew | refine below_drewN ?_ _ | apply Below.setCell _ (by first | omega | (simp; done) | (simp; omega)) | apply Below.alloc _ (by first | omega | (simp; done) | (simp; omega))))).run HGW.out)).mono ?_; rintro e w2 ⟨rfl, hB2⟩; have HO2 := Lib.hid ((HO.out.past (by repeat (first | exact Below.refl _ _ | assumption | apply Below.drew | refine below_drewN ?_ _ | apply Below.setCell _ (by first | omega | (simp; done) | (simp; omega)) | apply Below.alloc _ (by first | omega | (simp; done) | (simp; omega))))).past hB2); have hB3 : Below w.heap.size w w2 := Below.trans (by repeat (first | exact Below.refl _ _ | assumption | apply Below.drew | refine below_drewN ?_ _ | apply Below.setCell _ (by first | omega | (simp; done) | (simp; omega)) | apply Below.alloc _ (by first | omega | (simp; done) | (simp; omega)))) (hB2.mono (by simp)))
  all_goals
    refine leaves_cons (f := 67) (args := #[.pointer (some ⟨w.heap.size, 0, none⟩)]) (by simp) (by simp [go_sem]) ?_
    refine (lcatch_bad w.heap.size _ [] w2 HO2.out.2.2.1).mono ?_
    rintro e u' w9 ⟨rfl, rfl, c9, hB⟩
    have HK := Lib.hid (HS.out.past (hB3.trans hB))
    clear hB hB3 hB2
    simp [Leaves, settle, results, Tryz.results40, go_sem, c9]
    exact HK.out
end Go.Proofs.YtddfdmopaeghnadGreatDoor

namespace Go.Proofs.YtddfdmopaeghnadGreatDoor
open Go.RowKit
set_option maxRecDepth 100000 in
set_option maxHeartbeats 600000 in
theorem line_look {w0 : World} {d b : Nat} {x : Ses} {F : Nat → Prop} {w : World} (h : SesAt w0 d b x F w) (hG : RunG w0) (l : ByteArray) (hl : l.data.toList = [108, 111, 111, 107]) (hx : x.s.size ≤ 6000) :
    Calls Tryz.prog 40 #[.pointer (some ⟨b, 0, none⟩), .string l] w (fun e w' => e = .returned (.string (lookS x)) ∧ SesTo w0 d b x F w w') := by
  have g1 : Lib.hasPrefix l.data.toList (⟨#[43]⟩ : ByteArray).data.toList = false := by rw [hl]; rfl
  have g2 : Lib.hasPrefix l.data.toList (⟨#[119, 105, 100, 101, 32]⟩ : ByteArray).data.toList = false := by rw [hl]; rfl
  have q_set : (l.toList == [115, 101, 116]) = false := b_ne (c := [115, 101, 116]) (by rw [hl]; decide)
  have q_text : (l.toList == [116, 101, 120, 116]) = false := b_ne (c := [116, 101, 120, 116]) (by rw [hl]; decide)
  have q_look : (l.toList == [108, 111, 111, 107]) = true := b_eq hl
  have HCP := Lib.hid (fun (p : ByteArray) (w' : World) => Tryz.strings_CutPrefix l p w')
  have HO := Lib.hid h.out
  have HGW := Lib.hid hG
  have HCK := Lib.hid (fun (w' : World) (hg : RunG w') => look_any x w' (by omega) hg.max hg.pow)
  clear h hl hG hx
  obtain ⟨c0, f0, c2⟩ := HO.out.c0
  have hmf : ∀ (fn : Fn) (first cap : Array Value) (w : World), (Instr.makeFunc fn first cap).run Tryz.prog w = .ok (.func fn first cap) w := fun _ _ _ _ => rfl
  go_enter_defers Tryz.func40, Tryz.ntmps40
  go_upto_region 20 with (go_at_call 68; refine (HCP.out _ _).mono ?_; rintro e w1 ⟨rfl, rfl⟩; simp only [g1, g2])
  go_region_held3 (fun w' => w'.cell? ⟨b, 2, none⟩ = some (.pointer (some ⟨d, 0, none⟩)) ∧ Hid (LnAt w0 d b x F w w.heap.size (.string .empty) w')) (first | exact ⟨c2, HO⟩ | exact ⟨c2, Lib.hid (HO.out.past (by repeat (first | exact Below.refl _ _ | assumption | apply Below.drew | refine below_drewN ?_ _ | apply Below.setCell _ (by first | omega | (simp; done) | (simp; omega)) | apply Below.alloc _ (by first | omega | (simp; done) | (simp; omega)))))⟩ | exact ⟨HO4.out.c0.2.2, HO4⟩ | exact ⟨HO3.out.c0.2.2, HO3⟩ | exact ⟨HO2.out.c0.2.2, HO2⟩)
    (first
    | (go_at_call 37; refine (‹_ ∧ Hid (LnAt w0 d b x F w w.heap.size (.string .empty) _)›.2.out).2.1.string.mono ?_; rintro e w2 ⟨rfl, hk⟩; have HO2 := Lib.hid ((‹_ ∧ Hid (LnAt w0 d b x F w w.heap.size (.string .empty) _)›.2.out).step hk); clear hk)
    | (go_at_call 16; refine (‹_ ∧ Hid (LnAt w0 d b x F w w.heap.size (.string .empty) _)›.2.out).2.1.width.mono ?_; rintro e w3 ⟨rfl, rfl⟩; have HO3 := Lib.hid (‹_ ∧ Hid (LnAt w0 d b x F w w.heap.size (.string .empty) _)›.2.out))
    | (go_at_call 41; refine (HCK.out _ ((‹_ ∧ Hid (LnAt w0 d b x F w w.heap.size (.string .empty) _)›.2.out).run HGW.out)).mono ?_; rintro e w4 ⟨n, k, f, rfl, hS2, hn, hk, hB4⟩; have HO4 := Lib.hid ((‹_ ∧ Hid (LnAt w0 d b x F w w.heap.size (.string .empty) _)›.2.out).past hB4); clear hB4))
  have HS2 := Lib.hid hS2
  have HIT : Hid (∀ w', PowT w' → Calls Tryz.prog 71 #[.int .i64 n] w' (Ret w' (.string (itoaB n)))) := Lib.hid (fun w' hp => itoa_all (by omega) (by omega) w' hp)
  have HSZ := Lib.hid (itoaB_size n (by omega) (by omega))
  have HTO : Hid (∀ w', RunG w' → Calls Tryz.prog 69 #[.string (itoaB n), .int .i64 (k : Nat), errV f] w' (Ret w' (.string (toldF (itoaB n) k f)))) := Lib.hid (fun w' hg => told_any (itoaB n) k f w' (by have := HSZ.out; omega) (by omega) hg.err hg.esz hg.pow)
  clear hS2 hn hk HSZ
  generalize toldF (itoaB n) k f = T at *
  generalize itoaB n = N at *
  obtain ⟨a0, a1, -⟩ := HO4.out.c0
  go_wp2_with (first
    | (go_at_call 71; refine (HIT.out _ ((HO4.out.past (by repeat (first | exact Below.refl _ _ | assumption | apply Below.drew | refine below_drewN ?_ _ | apply Below.setCell _ (by first | omega | (simp; done) | (simp; omega)) | apply Below.alloc _ (by first | omega | (simp; done) | (simp; omega))))).run HGW.out).pow).mono ?_; rintro e w5 ⟨rfl, hB5⟩; have HO5 := Lib.hid ((HO4.out.past (by repeat (first | exact Below.refl _ _ | assumption | apply Below.drew | refine below_drewN ?_ _ | apply Below.setCell _ (by first | omega | (simp; done) | (simp; omega)) | apply Below.alloc _ (by first | omega | (simp; done) | (simp; omega))))).past hB5); obtain ⟨e4, k4, -⟩ := HO5.out.c0)
    | (go_at_call 69; refine (HTO.out _ ((HO5.out.past (by repeat (first | exact Below.refl _ _ | assumption | apply Below.drew | refine below_drewN ?_ _ | apply Below.setCell _ (by first | omega | (simp; done) | (simp; omega)) | apply Below.alloc _ (by first | omega | (simp; done) | (simp; omega))))).run HGW.out)).mono ?_; rintro e w6 ⟨rfl, hB6⟩; have HO6 := Lib.hid ((HO5.out.past (by repeat (first | exact Below.refl _ _ | assumption | apply Below.drew | refine below_drewN ?_ _ | apply Below.setCell _ (by first | omega | (simp; done) | (simp; omega)) | apply Below.alloc _ (by first | omega | (simp; done) | (simp; omega))))).past hB6); obtain ⟨e5, k5, -⟩ := HO6.out.c0))
  refine leaves_cons (f := 67) (args := #[.pointer (some ⟨w.heap.size, 0, none⟩)]) (by simp) (by simp [go_sem]) ?_
  refine (lcatch_idle _ _).mono ?_
  rintro e u' w9 ⟨rfl, rfl, hB⟩
  obtain ⟨c9, hk9⟩ := (HO6.out.put (.string T)).fin hB
  have HK := Lib.hid hk9
  clear hB hk9
  simp [Leaves, settle, results, Tryz.results40, go_sem, c9]
  exact ⟨HS2.out.symm, HK.out⟩
end Go.Proofs.YtddfdmopaeghnadGreatDoor

namespace Go.Proofs.YtddfdmopaeghnadGreatDoor
open Go Go.RowKit
attribute [local go_sem] Oper.semAt_some

/-- How a function's body is left that has one range over a function behind it. -/
def bodyPostK (P : Program) (fn : Func) (R : Ending → World → Prop) : Exit → Act → World → Prop
  | .ret, a, w => ∃ r w' ds, a.defers = { target := .collected r, args := #[] } :: ds ∧ (Instr.takeDeferred r).run P w = .ok [] w' ∧ Leaves P fn a.tmps R ds .returning w'
  | _, _, _ => False
theorem calls_of_wp_mark {P : Program} {f : FuncId} {fn : Func} {c : Code} {args : Array Value} {w : World} {R : Ending → World → Prop} (hf : P.funcs[f]? = some fn) (hb : fn.body = some c)
    (h : c.wp P (bodyPostK P fn R) { tmps := args ++ Array.replicate (fn.ntmps - args.size) undef, defers := [] } w) : Calls P f args w R := by
  intro cs
  let b : Frame := { (default : Frame) with fn := f, kind := .normal }
  have henter : Frame.enter P f args .normal = b.at { tmps := args ++ Array.replicate (fn.ntmps - args.size) undef, defers := [] } [.code c] := by
    simp [Frame.enter, Frame.at, hf, hb, b]
  obtain ⟨e, a', w', hq, harr⟩ := h b [] cs
  rw [← henter] at harr
  cases e with
  | ret =>
    obtain ⟨todo, hs₀⟩ := harr
    obtain ⟨r, w1, ds, hd, htk, hL⟩ := hq
    have h1 := step_collected (P := P) (fr := { b.at a' todo with mode := .returning }) (cs := cs) (by simp) hd rfl htk
    obtain ⟨e', w'', fr', hR, hs, hfn, hl⟩ := leaves_steps ds .returning w1 { { b.at a' todo with mode := .returning } with defers := [] ++ ds } cs rfl rfl rfl hf rfl hL
    exact ⟨e', w'', fr', hR, Comes.of_steps (Steps.trans hs₀ (.one h1)) hs, hfn, hl⟩
  | normal => exact hq.elim
  | panic ch => exact hq.elim
  | exit id => exact hq.elim
  | goto l => exact hq.elim
  | outgrown => exact hq.elim
theorem below_set2 {n : Nat} {A B : World} (h : Below n A B) (p : Addr) (v : Value) : Below n (A.setCell p v) (B.setCell p v) :=
  ⟨h.os, h.tape, h.output, by simp only [World.setCell, Array.size_modify]; exact h.size, fun k hk => by simp [World.setCell, Array.getElem?_modify, h.block k hk]⟩
/-- Between two rounds: the builder in block B, the world w1 below it, the iterator's cell. -/
structure TxI (B N g : Nat) (w1 : World) (pre : List ByteArray) (A : World) : Prop where
  bld : BldK B B (catB pre) A
  bel : Below B w1 A
  sz : N ≤ A.heap.size
  str : StrAt g A
theorem TxI.lp {B N g : Nat} {w1 : World} {pre : List ByteArray} {A A' : World} (h : TxI B N g w1 pre A) (hBg : B < g) (hgN : g < N) (hs : LpStep N g A A') : TxI B N g w1 pre A' := by
  obtain ⟨h1, h2, h3, h4⟩ := h
  obtain ⟨s, hs4⟩ := h4
  refine ⟨h1.keep hs.size (fun k o hk ho => hs.cells k o (fun e => ?_) hk ?_), ⟨hs.os.trans h2.os, hs.tape.trans h2.tape, hs.output.trans h2.output, Nat.le_trans h2.size hs.size, fun k hk => (hs.low k (by omega) (by omega)).trans (h2.block k hk)⟩, Nat.le_trans h3 hs.size, hs.str⟩
  · subst e
    rcases ho with rfl | ⟨c, fz, rfl⟩
    · omega
    · rw [hs4] at hk
      cases hk
  · rcases ho with rfl | ⟨c, fz, rfl⟩
    · obtain ⟨_, _, cs, hcs⟩ := h1.blk
      rw [hcs] at hk
      cases hk
      rfl
    · rfl
set_option maxRecDepth 100000 in
set_option maxHeartbeats 1000000 in
theorem line_text {w0 : World} {d b : Nat} {x : Ses} {F : Nat → Prop} {w : World} (h : SesAt w0 d b x F w) (hG : RunG w0) (l : ByteArray) (hl : l.data.toList = [116, 101, 120, 116]) :
    Calls Tryz.prog 40 #[.pointer (some ⟨b, 0, none⟩), .string l] w (fun e w' => e = .returned (.string (⟨(barsF true (formT x.W x.p).data.toList).toArray⟩ ++ okT)) ∧ SesTo w0 d b x F w w') := by
  have g1 : Lib.hasPrefix l.data.toList (⟨#[43]⟩ : ByteArray).data.toList = false := by rw [hl]; rfl
  have g2 : Lib.hasPrefix l.data.toList (⟨#[119, 105, 100, 101, 32]⟩ : ByteArray).data.toList = false := by rw [hl]; rfl
  have q_set : (l.toList == [115, 101, 116]) = false := b_ne (c := [115, 101, 116]) (by rw [hl]; decide)
  have q_text : (l.toList == [116, 101, 120, 116]) = true := b_eq hl
  have HCP := Lib.hid (fun (p : ByteArray) (w' : World) => Tryz.strings_CutPrefix l p w')
  have HO := Lib.hid h.out
  have HGW := Lib.hid hG
  have hw1 : (w.alloc (.cells #[.string .empty] 9)).heap.size = w.heap.size + 1 := by simp
  have hod := h.desk
  have hts : (formT x.W x.p).size ≤ 30000000 := by
    obtain ⟨_, _, _, _, _, _, _, _, _, _, _, hon, _⟩ := hod
    exact formT_size (fun u hu => (hon.stm u hu).1) hon.few hon.fits
  have HTX := Lib.hid (fun (w' : World) (hk : LnAt w0 d b x F w w.heap.size (.string .empty) w') => dtext_any hk.2.1.lo (hk.run hG).pow)
  have HB0 : BldK (w.heap.size + 1) (w.heap.size + 1) .empty ((w.alloc (.cells #[.string .empty] 9)).alloc (.cells #[.pointer none, .slice none 0 0] 88)) := by
    have := BldK.new (w.alloc (.cells #[.string .empty] 9))
    rwa [hw1] at this
  have HBZ := Lib.hid HB0
  clear h hl hG hod HB0
  generalize formT x.W x.p = T at *
  have hBs : (⟨(barsF true T.data.toList).toArray⟩ : ByteArray).size ≤ 60000000 := by
    have h1 := rlnL_size T.size T.data.toList _ (List.prefix_refl _)
    rw [catB_lines] at h1
    have h2 : T.data.toList.length = T.size := rfl
    omega
  obtain ⟨Bv, hBv⟩ : ∃ Bv : ByteArray, (⟨(barsF true T.data.toList).toArray⟩ : ByteArray) = Bv := ⟨_, rfl⟩
  rw [hBv] at hBs ⊢
  have HBV := Lib.hid hBv
  clear hBv
  obtain ⟨c0, f0, c2⟩ := HO.out.c0
  have hmf : ∀ (fn : Fn) (first cap : Array Value) (w : World), (Instr.makeFunc fn first cap).run Tryz.prog w = .ok (.func fn first cap) w := fun _ _ _ _ => rfl
  have c3 : ((w.alloc (.cells #[.string ⟨#[]⟩] 9)).alloc (.cells #[.pointer none, .slice none 0 0] 88)).cell? ⟨b, 2, none⟩ = some (.pointer (some ⟨d, 0, none⟩)) := (HO.out.past (by repeat (first | exact Below.refl _ _ | assumption | apply Below.drew | refine below_drewN ?_ _ | apply Below.setCell _ (by first | omega | (simp; done) | (simp; omega)) | apply Below.alloc _ (by first | omega | (simp; done) | (simp; omega))))).c0.2.2
  refine calls_of_wp_mark Tryz.func40 rfl ?_
  simp only [Tryz.ntmps40, List.size_toArray, List.length_cons, List.length_nil, Nat.reduceAdd, Nat.reduceSub, Array.replicate_succ, Array.replicate_zero, List.push_toArray, List.append_toArray, List.nil_append, List.cons_append]
  go_wp2_with (first
    | (go_at_call 68; refine (HCP.out _ _).mono ?_; rintro e w1 ⟨rfl, rfl⟩; simp only [g1, g2])
    | (go_at_call 15; refine (HTX.out _ (HO.out.past (by repeat (first | exact Below.refl _ _ | assumption | apply Below.drew | refine below_drewN ?_ _ | apply Below.setCell _ (by first | omega | (simp; done) | (simp; omega)) | apply Below.alloc _ (by first | omega | (simp; done) | (simp; omega)))))).mono ?_; rintro e w3 ⟨rfl, hB3⟩)
    | (go_at_call 72; refine (lines_mk _ _).mono ?_; rintro e w4 ⟨rfl, rfl⟩))
  have hX : (w3.alloc (.cells #[.string T] 9)).heap.size = w3.heap.size + 1 := by simp
  have hgX : (w3.alloc (.cells #[.string T] 9)).heap[w3.heap.size]? = some (.cells #[.string T] 9 (0, 0)) := heap_new rfl
  have hz3 : w.heap.size + 1 < w3.heap.size := by have := hB3.size; simp at this; omega
  have hbX : BldK (w.heap.size + 1) (w.heap.size + 1) .empty (w3.alloc (.cells #[.string T] 9)) := (HBZ.out.past hB3).past ((Below.refl _ _).alloc (Nat.le_refl _) _)
  have hlX : Below (w.heap.size + 1) (w.alloc (.cells #[.string .empty] 9)) (w3.alloc (.cells #[.string T] 9)) :=
    (Below.trans (((Below.refl _ _).alloc (by simp) _)) (hB3.mono (by simp))).alloc (by omega) _
  clear hB3
  generalize w3.alloc (.cells #[.string T] 9) = X at *
  refine (wpIn_wide (n := 10)).1 ?_
  refine' wpIn_range_iterC (F := Fence.wide) rfl (by omega) (gf := 120) (lb := #[.pointer (some ⟨w3.heap.size, 0, none⟩)]) rfl trivial (enters_of Tryz.func120 (by kernel_rfl) rfl)
    (lines_iter 9 (by omega) w3.heap.size T (by omega) X hgX) (by omega) rfl (TxI (w.heap.size + 1) X.heap.size w3.heap.size (w.alloc (.cells #[.string .empty] 9))) (fun pre A A' h hs => h.lp (by omega) (by omega) hs) ⟨hbX, hlX, Nat.le_refl _, T, hgX⟩ (fun pre A h => ⟨h.sz, h.str⟩) _ ?assign ?body ?done
  case assign =>
    intro l x Y K hK
    gi_wp2
    exact hK
  case body =>
    intro l pre xl Y hpre h
    have h1 := rlnL_size _ _ _ hpre
    have h2 : T.data.toList.length = T.size := rfl
    rw [catB_snoc, ByteArray.size_append] at h1
    have hsz : (catB pre).size + (⟨#[124]⟩ ++ xl : ByteArray).size ≤ 140737488355328 := by omega
    rw [ByteArray.size_append] at h1
    have hxs : xl.size ≤ 60000000 := by omega
    have HW := Lib.hid (bldk_write _ _ _ (⟨#[124]⟩ ++ xl) Y h.bld hsz)
    have HI := Lib.hid h
    clear h hsz hpre h1 h2
    gi_wp2_with (refine ⟨trivial, ?_⟩; gi_at_call 35; refine (CallsIn.inRound l (callsIn_wide.2 HW.out)).mono ?_; rintro e Y2 ⟨rfl, hb2, hB2, hO2, hz2⟩)
    obtain ⟨s2, hs2⟩ := HI.out.str
    have hk := hO2 _ _ hs2 (by omega) (fun c fz e => by cases e)
    refine ⟨⟨by rw [catB_snoc]; exact hb2, HI.out.bel.trans hB2, Nat.le_trans HI.out.sz hz2, s2, hk⟩, by rw [hk, hs2], fun k o _ ho hc => hO2 k o ho (fun e => ?_) (fun c fz e => by subst e; cases hc)⟩
    obtain ⟨_, _, cs, hcs⟩ := HI.out.bld.blk
    subst e
    rw [hcs] at ho
    cases ho
    cases hc
  case done =>
    intro D Y hD h hK
    have HS := Lib.hid (bldk_string _ _ _ Y h.bld)
    rw [show catB (rlnL T.data.toList.length T.data.toList) = _ from catB_lines T, HBV.out] at HS
    have hDb : w.heap.size + 1 < D := by omega
    have HK := Lib.hid hK; have HBE := Lib.hid h.bel
    clear h hK
    dsimp only
    go_wp2_with (go_at_call 37; refine HS.out.mono ?_; rintro e Y2 ⟨rfl, hB2, hO2⟩; have hB5 := HBE.out.trans hB2; have HL := Lib.hid (HO.out.past (by rw [hw1]; exact hB5)); obtain ⟨a0, a1, -⟩ := HL.out.c0)
    have hK2 := hO2 D _ HK.out (by omega) (fun c fz e => by cases e)
    refine ⟨D, _, _, rfl, run_takeDeferred ((Below.heap_setCell _ _ _ _ (by simp only; omega)).trans hK2), ?_⟩
    have hD2 : D < Y2.heap.size := (Array.getElem?_eq_some_iff.1 hK2).1
    refine leaves_cons (f := 67) (args := #[.pointer (some ⟨w.heap.size, 0, none⟩)]) (by simp) (by simp [go_sem]) ?_
    refine (lcatch_idle _ _).mono ?_
    rintro e u' w9 ⟨rfl, rfl, hB⟩
    have hb6 := below_set2 hB5 ⟨w.heap.size, 0, none⟩ (.string (Bv ++ okT))
    have hb7 := hb6.grown (grownBy_putObj' _ D (.deferred none)) (by simp [World.setCell]; omega) (fun k e => by cases e; omega)
    obtain ⟨c9, hk9⟩ := (HO.out.put (.string (Bv ++ okT))).fin (w2 := w9) (by
      have hs : ((w.alloc (.cells #[.string .empty] 9)).setCell ⟨w.heap.size, 0, none⟩ (.string (Bv ++ okT))).heap.size = w.heap.size + 1 := by simp [World.setCell]
      rw [hs]
      exact hb7.trans (hB.mono (by simp [World.setCell, World.putObj]; omega)))
    have HK9 := Lib.hid hk9
    clear hB hk9 hb6 hb7
    simp [Leaves, settle, results, Tryz.results40, go_sem, c9]
    exact HK9.out
end Go.Proofs.YtddfdmopaeghnadGreatDoor
