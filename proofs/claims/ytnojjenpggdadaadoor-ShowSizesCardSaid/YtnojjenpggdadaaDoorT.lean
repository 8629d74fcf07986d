/- The types of the program as Lean types, how they lie in cells, and what == says of them; by a program of this project (gen.py). -/
import Derived.Test.YtnojjenpggdadaaDoorO
import Derived.Test.YtnojjenpggdadaaDoorProg
set_option linter.unusedVariables false
set_option linter.unusedSimpArgs false
namespace Go.Proofs.YtnojjenpggdadaaDoor
open E Go.RowKit
theorem infoT3_is : (Tryd.prog.info? 3).isSome = true := by kernel_rfl
noncomputable def infoT3_v : TypeInfo := (Tryd.prog.info? 3).get infoT3_is
theorem infoT3 : Tryd.prog.info? 3 = some infoT3_v := (Option.some_get _).symm
theorem infoT5_is : (Tryd.prog.info? 5).isSome = true := by kernel_rfl
noncomputable def infoT5_v : TypeInfo := (Tryd.prog.info? 5).get infoT5_is
theorem infoT5 : Tryd.prog.info? 5 = some infoT5_v := (Option.some_get _).symm
theorem infoT9_is : (Tryd.prog.info? 9).isSome = true := by kernel_rfl
noncomputable def infoT9_v : TypeInfo := (Tryd.prog.info? 9).get infoT9_is
theorem infoT9 : Tryd.prog.info? 9 = some infoT9_v := (Option.some_get _).symm
theorem infoT22_is : (Tryd.prog.info? 22).isSome = true := by kernel_rfl
noncomputable def infoT22_v : TypeInfo := (Tryd.prog.info? 22).get infoT22_is
theorem infoT22 : Tryd.prog.info? 22 = some infoT22_v := (Option.some_get _).symm
structure S_census_Count where
  f_Kinds : (Vector Int 7)
  f_Bytes : (Vector Int 7)
  f_Whys : (Vector Int 21)
  deriving DecidableEq, Inhabited
def c_census_Count : Cd S_census_Count := ⟨35, fun x => Cd.cs (cVec (cInt .i64) 7 (by decide)) x.f_Kinds ++ (Cd.cs (cVec (cInt .i64) 7 (by decide)) x.f_Bytes ++ (Cd.cs (cVec (cInt .i64) 21 (by decide)) x.f_Whys ++ [])), fun x => by simp only [List.length_append, Cd.len, List.length_nil] <;> rfl, fun x v hv => by
  simp only [List.mem_append, List.not_mem_nil, or_false] at hv
  rcases hv with hv | hv | hv
  all_goals exact Cd.one _ _ _ hv, by decide⟩
def ok_census_Count (x : S_census_Count) : Prop := (fun v : (Vector Int 7) => ∀ x ∈ v.toList, (fun n : Int => (Lit.int .i64 n).wf = true) x) x.f_Kinds ∧ (fun v : (Vector Int 7) => ∀ x ∈ v.toList, (fun n : Int => (Lit.int .i64 n).wf = true) x) x.f_Bytes ∧ (fun v : (Vector Int 21) => ∀ x ∈ v.toList, (fun n : Int => (Lit.int .i64 n).wf = true) x) x.f_Whys
theorem c_census_Count_f_Kinds (x : S_census_Count) : Lens (c_census_Count.cs x) 0 (cVec (cInt .i64) 7 (by decide)) x.f_Kinds (fun z => c_census_Count.cs { x with f_Kinds := z }) :=
  ⟨[], Cd.cs (cVec (cInt .i64) 7 (by decide)) x.f_Bytes ++ (Cd.cs (cVec (cInt .i64) 21 (by decide)) x.f_Whys ++ []), by simp [c_census_Count], by simp only [List.length_append, Cd.len, List.length_nil] <;> rfl, fun z => by simp [c_census_Count]⟩
theorem c_census_Count_f_Bytes (x : S_census_Count) : Lens (c_census_Count.cs x) 7 (cVec (cInt .i64) 7 (by decide)) x.f_Bytes (fun z => c_census_Count.cs { x with f_Bytes := z }) :=
  ⟨Cd.cs (cVec (cInt .i64) 7 (by decide)) x.f_Kinds ++ [], Cd.cs (cVec (cInt .i64) 21 (by decide)) x.f_Whys ++ [], by simp [c_census_Count], by simp only [List.length_append, Cd.len, List.length_nil] <;> rfl, fun z => by simp [c_census_Count]⟩
theorem c_census_Count_f_Whys (x : S_census_Count) : Lens (c_census_Count.cs x) 14 (cVec (cInt .i64) 21 (by decide)) x.f_Whys (fun z => c_census_Count.cs { x with f_Whys := z }) :=
  ⟨Cd.cs (cVec (cInt .i64) 7 (by decide)) x.f_Kinds ++ (Cd.cs (cVec (cInt .i64) 7 (by decide)) x.f_Bytes ++ []), [], by simp [c_census_Count], by simp only [List.length_append, Cd.len, List.length_nil] <;> rfl, fun z => by simp [c_census_Count]⟩
theorem eq_census_Count_37 : Eqs Tryd.prog 37 c_census_Count true 2 := fun d hd x y w => by
  obtain ⟨d, rfl⟩ : ∃ e, d = e + 1 := ⟨d - 1, by omega⟩
  refine (run_eq_struct (xs := (c_census_Count.cs x).toArray) (ys := (c_census_Count.cs y).toArray) Tryd.underlying37 Tryd.stoodInHeld37).trans ?_
  refine Eq.trans (eqf_cons (c_census_Count_f_Kinds x) (c_census_Count_f_Kinds y) (by rfl) (by rfl) Tryd.isAgg34 Tryd.sizeOf34 (.inl rfl) (eqs_vec Tryd.underlying34 infoT3 Tryd.sizeOf3 Tryd.isAgg3 (.inr rfl) (eqs_int Tryd.underlying3)) (by omega) (eqf_cons (c_census_Count_f_Bytes x) (c_census_Count_f_Bytes y) (by rfl) (by rfl) Tryd.isAgg34 Tryd.sizeOf34 (.inl rfl) (eqs_vec Tryd.underlying34 infoT3 Tryd.sizeOf3 Tryd.isAgg3 (.inr rfl) (eqs_int Tryd.underlying3)) (by omega) (eqf_cons (c_census_Count_f_Whys x) (c_census_Count_f_Whys y) (by rfl) (by rfl) Tryd.isAgg35 Tryd.sizeOf35 (.inl rfl) (eqs_vec Tryd.underlying35 infoT3 Tryd.sizeOf3 Tryd.isAgg3 (.inr rfl) (eqs_int Tryd.underlying3)) (by omega) eqf_nil))) ?_
  congr 1
  cases x; cases y
  rw [Bool.eq_iff_iff]; simp
theorem opn_census_Count_37 : Opn Tryd.prog 37 c_census_Count ok_census_Count := fun enc w base spare held fuel cs d ps hd => by
  cases fuel with
  | zero => exact (opn_zero hd).elim
  | succ fuel =>
    obtain ⟨hlen, hf⟩ := opn_fields Tryd.underlying37 hd
    rw [show Tryd.prog.cellsOf 37 = 35 from by kernel_rfl] at hlen
    obtain ⟨d0, p0, h0⟩ : ∃ d' p', DataW.trod enc Tryd.prog w base spare held fuel 34 ((cs.drop 0).take (Tryd.prog.cellsOf 34)) = some (d', p') := hf 0 _ rfl
    obtain ⟨x0, e0, o0⟩ := (opn_vec Tryd.underlying34 (by kernel_rfl) (by kernel_rfl) (opn_int Tryd.underlying3)) enc w base spare held fuel _ _ _ h0
    rw [show Tryd.prog.cellsOf 34 = 7 from by kernel_rfl] at e0
    obtain ⟨d1, p1, h1⟩ : ∃ d' p', DataW.trod enc Tryd.prog w base spare held fuel 34 ((cs.drop 7).take (Tryd.prog.cellsOf 34)) = some (d', p') := hf 1 _ rfl
    obtain ⟨x1, e1, o1⟩ := (opn_vec Tryd.underlying34 (by kernel_rfl) (by kernel_rfl) (opn_int Tryd.underlying3)) enc w base spare held fuel _ _ _ h1
    rw [show Tryd.prog.cellsOf 34 = 7 from by kernel_rfl] at e1
    obtain ⟨d2, p2, h2⟩ : ∃ d' p', DataW.trod enc Tryd.prog w base spare held fuel 35 ((cs.drop 14).take (Tryd.prog.cellsOf 35)) = some (d', p') := hf 2 _ rfl
    obtain ⟨x2, e2, o2⟩ := (opn_vec Tryd.underlying35 (by kernel_rfl) (by kernel_rfl) (opn_int Tryd.underlying3)) enc w base spare held fuel _ _ _ h2
    rw [show Tryd.prog.cellsOf 35 = 21 from by kernel_rfl] at e2
    refine ⟨⟨x0, x1, x2⟩, ?_, o0, o1, o2⟩
    show cs = Cd.cs (cVec (cInt .i64) 7 (by decide)) x0 ++ (Cd.cs (cVec (cInt .i64) 7 (by decide)) x1 ++ (Cd.cs (cVec (cInt .i64) 21 (by decide)) x2 ++ []))
    rw [← e0, ← e1, ← e2]
    exact (split_cons (l := cs) (o := 0) (k := 7) (split_cons (l := cs) (o := 7) (k := 7) (split_cons (l := cs) (o := 14) (k := 21) (split_nil (l := cs) (o := 35) (by omega)))))
theorem places_census_Count_37 : ∀ w, ((#[{ name := "Kinds", type := 34, offset := 0, embedded := false, tag := "", pkgPath := "", byteOffset := 0 }, { name := "Bytes", type := 34, offset := 7, embedded := false, tag := "", pkgPath := "", byteOffset := 56 }, { name := "Whys", type := 35, offset := 14, embedded := false, tag := "", pkgPath := "", byteOffset := 112 }] : Array Field).mapM fun f => (do pure (f.offset, ← sizeOf f.type) : Sem (Nat × Nat))).run Tryd.prog w = .ok #[(0, 7), (7, 7), (14, 21)] w := fun w => by
  simp [Tryd.sizeOf34 w, Tryd.sizeOf34 w, Tryd.sizeOf35 w]
structure S_errors_errorString where
  f_s : ByteArray
  deriving DecidableEq, Inhabited
def c_errors_errorString : Cd S_errors_errorString := ⟨1, fun x => Cd.cs cStr x.f_s ++ [], fun x => by simp only [List.length_append, Cd.len, List.length_nil] <;> rfl, fun x v hv => by
  simp only [List.mem_append, List.not_mem_nil, or_false] at hv
  rcases hv with hv
  all_goals exact Cd.one _ _ _ hv, by decide⟩
def ok_errors_errorString (x : S_errors_errorString) : Prop := (fun s : ByteArray => s.size ≤ maxLen) x.f_s
theorem c_errors_errorString_f_s (x : S_errors_errorString) : Lens (c_errors_errorString.cs x) 0 cStr x.f_s (fun z => c_errors_errorString.cs { x with f_s := z }) :=
  ⟨[], [], by simp [c_errors_errorString], by simp only [List.length_append, Cd.len, List.length_nil] <;> rfl, fun z => by simp [c_errors_errorString]⟩
theorem eq_errors_errorString_114 : Eqs Tryd.prog 114 c_errors_errorString true 1 := fun d hd x y w => by
  obtain ⟨d, rfl⟩ : ∃ e, d = e + 1 := ⟨d - 1, by omega⟩
  refine (run_eq_struct (xs := (c_errors_errorString.cs x).toArray) (ys := (c_errors_errorString.cs y).toArray) Tryd.underlying114 Tryd.stoodInHeld114).trans ?_
  refine Eq.trans (eqf_cons (c_errors_errorString_f_s x) (c_errors_errorString_f_s y) (by rfl) (by rfl) Tryd.isAgg9 Tryd.sizeOf9 (.inr rfl) (eqs_str Tryd.underlying9) (by omega) eqf_nil) ?_
  congr 1
  cases x; cases y
  rw [Bool.eq_iff_iff]; simp
theorem opn_errors_errorString_114 : Opn Tryd.prog 114 c_errors_errorString ok_errors_errorString := fun enc w base spare held fuel cs d ps hd => by
  cases fuel with
  | zero => exact (opn_zero hd).elim
  | succ fuel =>
    obtain ⟨hlen, hf⟩ := opn_fields Tryd.underlying114 hd
    rw [show Tryd.prog.cellsOf 114 = 1 from by kernel_rfl] at hlen
    obtain ⟨d0, p0, h0⟩ : ∃ d' p', DataW.trod enc Tryd.prog w base spare held fuel 9 ((cs.drop 0).take (Tryd.prog.cellsOf 9)) = some (d', p') := hf 0 _ rfl
    obtain ⟨x0, e0, o0⟩ := (opn_str Tryd.underlying9) enc w base spare held fuel _ _ _ h0
    rw [show Tryd.prog.cellsOf 9 = 1 from by kernel_rfl] at e0
    refine ⟨⟨x0⟩, ?_, o0⟩
    show cs = Cd.cs cStr x0 ++ []
    rw [← e0]
    exact (split_cons (l := cs) (o := 0) (k := 1) (split_nil (l := cs) (o := 1) (by omega)))
theorem places_errors_errorString_114 : ∀ w, ((#[{ name := "s", type := 9, offset := 0, embedded := false, tag := "", pkgPath := "errors", byteOffset := 0 }] : Array Field).mapM fun f => (do pure (f.offset, ← sizeOf f.type) : Sem (Nat × Nat))).run Tryd.prog w = .ok #[(0, 1)] w := fun w => by
  simp [Tryd.sizeOf9 w]
end Go.Proofs.YtnojjenpggdadaaDoor
