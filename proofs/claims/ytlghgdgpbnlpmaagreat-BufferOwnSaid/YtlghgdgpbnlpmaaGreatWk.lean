/- What is proved: the walk's rules, with their side conditions found by short tactics of their own. Conditions: none. -/
import Derived.Test.YtlghgdgpbnlpmaaGreatAx
namespace Go.Proofs.YtlghgdgpbnlpmaaGreat
open Go.RowKit
set_option linter.unusedVariables false
theorem sNo {b : Bool} {k : AV → Prop} (h : False := by omega) : VS b k := h.elim
theorem sT {b : Bool} {k : AV → Prop} (hk : k (.bool true)) (h : b = true := by first | with_reducible rfl | assumption | exact decide_eq_true (by omega) | exact beq_iff_eq.2 (by first | with_reducible rfl | omega | exact rfl) | exact bne_iff_ne.2 (by omega)) : VS b k := ⟨fun t e => by rw [← e, h]; exact hk⟩
theorem sF {b : Bool} {k : AV → Prop} (hk : k (.bool false)) (h : b = false := by first | with_reducible rfl | assumption | exact decide_eq_false (by omega) | exact beq_eq_false_iff_ne.2 (by omega) | exact bne_eq_false_iff_eq.2 (by first | with_reducible rfl | omega | exact rfl)) : VS b k := ⟨fun t e => by rw [← e, h]; exact hk⟩
theorem sD {p : Prop} [Decidable p] {k : AV → Prop} (h2 : ¬ p → k (.bool false)) (h1 : p → k (.bool true)) : VS (decide p) k := ⟨fun t e => by
  cases t
  · exact h2 (of_decide_eq_false e)
  · exact h1 (of_decide_eq_true e)⟩
theorem sE {α : Type} [BEq α] [LawfulBEq α] {a b : α} {k : AV → Prop} (h2 : a ≠ b → k (.bool false)) (h1 : a = b → k (.bool true)) : VS (a == b) k := ⟨fun t e => by
  cases t
  · exact h2 (beq_eq_false_iff_ne.1 e)
  · exact h1 (beq_iff_eq.1 e)⟩
theorem sN {α : Type} [BEq α] [LawfulBEq α] {a b : α} {k : AV → Prop} (h2 : a = b → k (.bool false)) (h1 : a ≠ b → k (.bool true)) : VS (a != b) k := ⟨fun t e => by
  cases t
  · exact h2 (bne_eq_false_iff_eq.1 e)
  · exact h1 (bne_iff_ne.1 e)⟩
theorem sG {b : Bool} {k : AV → Prop} (h2 : b = false → k (.bool false)) (h1 : b = true → k (.bool true)) : VS b k := ⟨fun t e => by
  cases t
  · exact h2 e
  · exact h1 e⟩
theorem wr {kk : IntKind} {z : Int} {k : AV → Prop} (hk : k (.int kk z)) (h : kk.wrap z = z := by first | exact wrap_in ⟨by omega, by omega⟩ | exact IntWalk.u64_in _ ⟨by omega, by omega⟩) : VWr kk z k := ⟨_, h, hk⟩
theorem rm {n : Int} {k : Prop} (hk : k) (h : n ≠ 0 := by first | decide | omega) : VRm n k := ⟨h, hk⟩
structure IxP (i : Int) (rows : List (List AV)) (kk j : Nat) (cs : List AV) : Prop where
  i : i = (j : Int)
  row : rows[j]? = some cs
  len : cs.length = kk
theorem ix {i : Int} {rows : List (List AV)} {kk : Nat} {k : AV → Prop} {j : Nat} {cs : List AV} (hk : k (.fp cs 0)) (h : IxP i rows kk j cs := by first
  | exact ⟨rfl, getE (by omega), rfl⟩ | exact ⟨by assumption, getE (by omega), rfl⟩ | exact ⟨(Int.toNat_of_nonneg (by omega)).symm, getE (by omega), rfl⟩ | exact ⟨rfl, by assumption, rfl⟩ | exact IxP.mk (j := Int.toNat _) rfl rfl rfl
  | exact IxP.mk (j := 0) rfl rfl rfl | exact IxP.mk (j := 1) rfl rfl rfl | exact IxP.mk (j := 2) rfl rfl rfl | exact IxP.mk (j := 3) rfl rfl rfl) : VIx i rows kk k := ⟨j, cs, h.i, h.row, h.len, hk⟩
structure AtP (i : Int) (N j : Nat) : Prop where
  i : i = (j : Int)
  lt : j < N
theorem ati {i : Int} {N : Nat} {k : Nat → Prop} {j : Nat} (hk : k j) (h : AtP i N j := by first
  | exact ⟨rfl, by omega⟩ | exact ⟨by assumption, by omega⟩ | exact AtP.mk (j := 0) rfl (by decide) | exact AtP.mk (j := 1) rfl (by decide) | exact AtP.mk (j := 2) rfl (by decide) | exact AtP.mk (j := 3) rfl (by decide)
  | exact AtP.mk (j := Int.toNat _) rfl (by decide) | exact ⟨(Int.toNat_of_nonneg (by omega)).symm, by omega⟩) : VAt i N k := ⟨j, h.i, h.lt, hk⟩
theorem row {rows : List (List AV)} {j : Nat} {k : List AV → Prop} {cs : List AV} (hk : k cs) (h : rows[j]? = some cs := by first | assumption | exact getE (by omega) | exact rfl) : VRow rows j k := ⟨cs, h, hk⟩
theorem app {kk : Nat} {rows : List (List AV)} {N : Nat} {k : Prop} (hk : k) (h : RowsOk kk rows := by first | exact rok_lit rfl | exact rok_map (fun _ => ⟨rfl, rfl⟩)) (hN : N ≤ 2147483648 := by omega) : VApp (RowsOk kk rows) N k := ⟨h, hN, hk⟩
structure SlP (lo hi : Option Int) (n l h : Nat) : Prop where
  lo : lo.getD 0 = (l : Int)
  hi : hi.getD n = (h : Int)
  le : l ≤ h
  len : h ≤ n
theorem SlP.l0 {lo hi : Option Int} {n h : Nat} (h1 : lo.getD 0 = ((0 : Nat) : Int)) (h2 : hi.getD n = (h : Int)) (h3 : 0 ≤ h) (h4 : h ≤ n) : SlP lo hi n 0 h := ⟨h1, h2, h3, h4⟩
theorem SlP.l1 {lo hi : Option Int} {n h : Nat} (h1 : lo.getD 0 = ((1 : Nat) : Int)) (h2 : hi.getD n = (h : Int)) (h3 : 1 ≤ h) (h4 : h ≤ n) : SlP lo hi n 1 h := ⟨h1, h2, h3, h4⟩
theorem slM {α : Type} {f : α → List AV} {xs : List α} {lo hi : Option Int} {kk : Nat} {k : AV → Prop} {l h : Nat} (hk : k (.lst ((xs.take h).drop l).length (((xs.take h).drop l).map f))) (hp : SlP lo hi xs.length l h := by first | exact SlP.l0 rfl rfl (by omega) (by omega) | exact SlP.l1 rfl rfl (by omega) (by omega) | exact ⟨rfl, rfl, by omega, by omega⟩) (h5 : ∀ x, (f x).length = kk := by exact fun _ => rfl) :
    VSl lo hi xs.length kk (xs.map f) k := VSl.map hp.lo hp.hi hp.le hp.len h5 hk
theorem slO {lo hi : Option Int} {n kk : Nat} {rows : List (List AV)} {k : AV → Prop} {l h : Nat} (hk : k (.lst (h - l) ((rows.take h).drop l))) (hp : SlP lo hi n l h := by first | exact SlP.l0 rfl rfl (by omega) (by omega) | exact SlP.l1 rfl rfl (by omega) (by omega) | exact ⟨rfl, rfl, by omega, by omega⟩) (h5 : LenOk kk rows := by first | exact len_map (fun _ => rfl) | exact len_lit rfl) : VSl lo hi n kk rows k := VSl.of hp.lo hp.hi hp.le hp.len h5 hk
theorem slN {lo hi : Option Int} {k Y : Prop} (hk : k) (h1 : lo.getD 0 = 0 := by first | rfl | omega) (h2 : hi.getD 0 = 0 := by first | rfl | omega) : VSn lo hi k ∨ Y := .inl ⟨h1, h2, hk⟩
theorem slS {lo hi : Option Int} {n : Nat} {k : Nat → Prop} {X Y : Prop} {h : Nat} (hk : k h) (hp : SlP lo hi n 0 h := by first | exact SlP.l0 rfl rfl (by omega) (by omega) | exact SlP.mk (h := 0) rfl rfl (by omega) (by omega)) : X ∨ (VSo lo hi n k ∨ Y) := .inr (.inl ⟨h, hp.lo, hp.hi, hp.len, hk⟩)
structure SwP (lo hi : Option Int) (n l h : Nat) : Prop where
  lo : lo.getD 0 = (l : Int)
  hi : hi.getD n = (h : Int)
  le : l ≤ h
  len : h ≤ n
  pos : 0 < n
theorem swM {lo hi : Option Int} {n : Nat} {k : Nat → Nat → Nat → Prop} {l h : Nat} (hk : ∀ C, n ≤ C → k l h C) (hp : SwP lo hi n l h := by first | exact ⟨rfl, rfl, by omega, by omega, by omega⟩ | exact SwP.mk (l := 0) rfl rfl (by omega) (by omega) (by omega) | exact SwP.mk (l := 1) rfl rfl (by omega) (by omega) (by omega)) : VSw lo hi n k := ⟨l, h, hp.lo, hp.hi, hp.le, hp.len, hp.pos, hk⟩
theorem swA {X Y Z : Prop} (h : Z) : X ∨ (Y ∨ Z) := .inr (.inr h)
theorem swB {X Y Z W : Prop} (h : Z) : X ∨ (Y ∨ (Z ∨ W)) := .inr (.inr (.inl h))
theorem sj {lo hi : Option Int} {n : Nat} {k X Y Z : Prop} {l h : Nat} (hk : k) (hp : SlP lo hi n l h := by exact ⟨rfl, rfl, by omega, by omega⟩) : X ∨ (Y ∨ (Z ∨ VSj lo hi n k)) := .inr (.inr (.inr ⟨l, h, hp.lo, hp.hi, hp.le, hp.len, hk⟩))
structure SvP (lo hi : Option Int) (n c l h : Nat) : Prop where
  lo : lo.getD 0 = (l : Int)
  hi : hi.getD n = (h : Int)
  le : l ≤ h
  len : h ≤ c
theorem sv {lo hi : Option Int} {n c : Nat} {k : Nat → Nat → Prop} {l h : Nat} (hk : k l h) (hp : SvP lo hi n c l h := by first | exact ⟨rfl, rfl, by omega, by omega⟩ | exact SvP.mk (l := 0) rfl rfl (by omega) (by omega) | exact SvP.mk (l := 1) rfl rfl (by omega) (by omega)) : VSv lo hi n c k := ⟨l, h, hp.lo, hp.hi, hp.le, hp.len, hk⟩
theorem cl {n lo N : Nat} {k : Prop} (hk : k) (h : lo + n ≤ N ∨ N ≤ lo := by omega) : VCl n lo N k := ⟨h, hk⟩
structure S3P (lo hi : Option Int) (c : Nat) (m : Int) (l h j : Nat) : Prop where
  lo : lo.getD 0 = (l : Int)
  hi : hi = some (h : Int)
  m : m = (j : Int)
  le : l ≤ h
  le' : h ≤ j
  len : j ≤ c
theorem s3 {lo hi : Option Int} {n c : Nat} {m : Int} {k : Prop} {l h j : Nat} (hk : k) (hp : S3P lo hi c m l h j := by first | exact ⟨rfl, rfl, rfl, by omega, by omega, by omega⟩ | exact S3P.mk (l := 0) rfl rfl rfl (by omega) (by omega) (by omega) | exact S3P.mk (l := 1) rfl rfl rfl (by omega) (by omega) (by omega)) : VS3 lo hi n c m k := ⟨l, h, j, hp.lo, hp.hi, hp.m, hp.le, hp.le', hp.len, hk⟩
structure AzP (i : Int) (n : Nat) : Prop where
  i : i = (n : Int)
  pos : 0 < n
  le : n ≤ 2147483648
theorem az {i : Int} {k : Nat → Prop} {n : Nat} (hk : k n) (h : AzP i n := by first | exact ⟨rfl, by omega, by omega⟩ | exact ⟨(Int.toNat_of_nonneg (by omega)).symm, by omega, by omega⟩) : VAz i k := ⟨n, h.i, h.pos, h.le, hk⟩
/-! calls -/
theorem cf {P : Program} {f : FuncId} {args : List AV} {k : AV → Prop} {r : AV} {u : Value} (h : AFnP P f args r) (hk : kx r k) (hu : flatV r = some u := by exact rfl) : VCf P f args k := ⟨_, _, h, hu, hk⟩
theorem cg {P : Program} {f : FuncId} {args : List AV} {k : AV → Prop} {Y : Prop} {r : AV} {u : Value} (h : AFnP P f args r) (hk : kx r k) (hu : flatV r = some u := by exact rfl) : VCf P f args k ∨ Y := .inl ⟨_, _, h, hu, hk⟩
theorem cz {P : Program} {f : FuncId} {args : List AV} {k : AV → Prop} {X Y : Prop} {r : AV} (h : AFnP P f args r) (hk : kx r k) : X ∨ (VCz P f args k ∨ Y) := .inr (.inl (VCz.of h hk))
theorem cp {P : Program} {f : FuncId} {args : List AV} {k : AV → Prop} {X : Prop} {r : AV} (h : AFnP P f args r) (hk : kx r k) : X ∨ VCp P f args k := .inr ⟨_, h, hk⟩
theorem co {P : Program} {f : FuncId} {args : List AV} {h : List AP} {b : Bool} {k : AV → List AP → Prop} {X Y Z : Prop} {R : AV → List AP → Prop} (hf : AFn P f args h R) (hk : ∀ r h', R r h' → kx r fun r => k r h') (hb : b = true := by exact rfl) : X ∨ (Y ∨ (VCo P f args h b k ∨ Z)) := .inr (.inr (.inl ⟨_, hf, hb, hk⟩))
/-- the piece with the number 0 goes along -/
theorem ca {P : Program} {f : FuncId} {args : List AV} {h : List AP} {b : Bool} {k : AV → List AP → Prop} {X Y Z : Prop} {R : AV → List AP → Prop} (hf : AFn P f args h R) (hk : ∀ r h', R r h' → kx r fun r => k r h') (hb : b = true := by exact rfl) : X ∨ (Y ∨ (Z ∨ VCo P f args h b k)) := .inr (.inr (.inr ⟨_, hf, hb, hk⟩))
theorem cr {P : Program} {f : FuncId} {args : List AV} {k : AV → Prop} {X Y : Prop} {R : AV → Prop} (hf : AFnR P f args R) (hk : ∀ r, R r → kx r k) : X ∨ (VCz P f args k ∨ Y) := .inr (.inl ⟨_, hf, hk⟩)
/-! regions that draw their order -/
theorem drx (cl zs js : List Nat) {A B : List Nat → List Nat → List Nat → Prop} {Y : Prop} (hk : B cl zs js) (h : A cl zs js := by decide +kernel) : VDr (fun cl zs js => A cl zs js ∧ B cl zs js) ∨ Y := .inl ⟨cl, zs, js, h, hk⟩
theorem dr {A B : List Nat → List Nat → List Nat → Prop} {Y : Prop} (hk : B [] [] []) (h : A [] [] [] := by decide +kernel) : VDr (fun cl zs js => A cl zs js ∧ B cl zs js) ∨ Y := .inl ⟨[], [], [], h, hk⟩
theorem pr {X Y Z : Prop} {a : Prop} (hk : Y) (h : a := by decide +kernel) : X ∨ ((a ∧ Y) ∨ Z) := .inr (.inl ⟨h, hk⟩)
theorem vNl {n : Nat} {k : Bool → Prop} {X : Prop} (h1 : n = 0 → k true) (h2 : k false) : X ∨ VNl n k := .inr ⟨fun b hb => by
  cases b
  · exact h2
  · exact h1 (hb rfl)⟩
theorem afp {P : Program} {ty : Nat → TyI} (ht : ∀ T, TyOk P T (ty T)) {f : FuncId} {fn : Func} {c : Code} {args : List AV} {r : AV} (hcall : ∀ (args : Array Value) w, (callFunc f args).run P w = .ok (.enter f args) w)
    (hf : P.funcs[f]? = some fn) (h : vcC P ty fn.ntmps c 0 (retP ty fn (fun r' => r' = r)) ⟨argA args, [], 0⟩) (hb : fn.body = some c := by exact rfl) (hn : Nat.ble args.length fn.ntmps = true := by exact rfl) (hw : wrOk fn.ntmps c = true := by decide +kernel) : AFnP P f args r := afnp_in ht hcall hf hb hn hw h
end Go.Proofs.YtlghgdgpbnlpmaaGreat
