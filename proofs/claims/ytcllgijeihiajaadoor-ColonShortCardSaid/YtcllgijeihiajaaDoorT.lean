/- The types of the program as Lean types, how they lie in cells, and what == says of them; by a program of this project (gen.py). -/
import Derived.Test.YtcllgijeihiajaaDoorO
import Derived.Test.YtcllgijeihiajaaDoorProg
set_option linter.unusedVariables false
set_option linter.unusedSimpArgs false
namespace Go.Proofs.YtcllgijeihiajaaDoor
open E Go.RowKit
theorem infoT5_is : (Tryd.prog.info? 5).isSome = true := by kernel_rfl
noncomputable def infoT5_v : TypeInfo := (Tryd.prog.info? 5).get infoT5_is
theorem infoT5 : Tryd.prog.info? 5 = some infoT5_v := (Option.some_get _).symm
theorem infoT9_is : (Tryd.prog.info? 9).isSome = true := by kernel_rfl
noncomputable def infoT9_v : TypeInfo := (Tryd.prog.info? 9).get infoT9_is
theorem infoT9 : Tryd.prog.info? 9 = some infoT9_v := (Option.some_get _).symm
theorem infoT39_is : (Tryd.prog.info? 39).isSome = true := by kernel_rfl
noncomputable def infoT39_v : TypeInfo := (Tryd.prog.info? 39).get infoT39_is
theorem infoT39 : Tryd.prog.info? 39 = some infoT39_v := (Option.some_get _).symm
theorem infoT53_is : (Tryd.prog.info? 53).isSome = true := by kernel_rfl
noncomputable def infoT53_v : TypeInfo := (Tryd.prog.info? 53).get infoT53_is
theorem infoT53 : Tryd.prog.info? 53 = some infoT53_v := (Option.some_get _).symm
structure S_colon_reader where
  f_g : (Vector Int 8)
  f_n : Int
  f_gap : Int
  deriving DecidableEq, Inhabited
def c_colon_reader : Cd S_colon_reader := ⟨10, fun x => Cd.cs (cVec (cInt .u16) 8 (by decide)) x.f_g ++ (Cd.cs (cInt .i64) x.f_n ++ (Cd.cs (cInt .i64) x.f_gap ++ [])), fun x => by simp only [List.length_append, Cd.len, List.length_nil] <;> rfl, fun x v hv => by
  simp only [List.mem_append, List.not_mem_nil, or_false] at hv
  rcases hv with hv | hv | hv
  all_goals exact Cd.one _ _ _ hv, by decide⟩
def ok_colon_reader (x : S_colon_reader) : Prop := (fun v : (Vector Int 8) => ∀ x ∈ v.toList, (fun n : Int => (Lit.int .u16 n).wf = true) x) x.f_g ∧ (fun n : Int => (Lit.int .i64 n).wf = true) x.f_n ∧ (fun n : Int => (Lit.int .i64 n).wf = true) x.f_gap
theorem c_colon_reader_f_g (x : S_colon_reader) : Lens (c_colon_reader.cs x) 0 (cVec (cInt .u16) 8 (by decide)) x.f_g (fun z => c_colon_reader.cs { x with f_g := z }) :=
  ⟨[], Cd.cs (cInt .i64) x.f_n ++ (Cd.cs (cInt .i64) x.f_gap ++ []), by simp [c_colon_reader], by simp only [List.length_append, Cd.len, List.length_nil] <;> rfl, fun z => by simp [c_colon_reader]⟩
theorem c_colon_reader_f_n (x : S_colon_reader) : Lens (c_colon_reader.cs x) 8 (cInt .i64) x.f_n (fun z => c_colon_reader.cs { x with f_n := z }) :=
  ⟨Cd.cs (cVec (cInt .u16) 8 (by decide)) x.f_g ++ [], Cd.cs (cInt .i64) x.f_gap ++ [], by simp [c_colon_reader], by simp only [List.length_append, Cd.len, List.length_nil] <;> rfl, fun z => by simp [c_colon_reader]⟩
theorem c_colon_reader_f_gap (x : S_colon_reader) : Lens (c_colon_reader.cs x) 9 (cInt .i64) x.f_gap (fun z => c_colon_reader.cs { x with f_gap := z }) :=
  ⟨Cd.cs (cVec (cInt .u16) 8 (by decide)) x.f_g ++ (Cd.cs (cInt .i64) x.f_n ++ []), [], by simp [c_colon_reader], by simp only [List.length_append, Cd.len, List.length_nil] <;> rfl, fun z => by simp [c_colon_reader]⟩
theorem eq_colon_reader_42 : Eqs Tryd.prog 42 c_colon_reader true 2 := fun d hd x y w => by
  obtain ⟨d, rfl⟩ : ∃ e, d = e + 1 := ⟨d - 1, by omega⟩
  refine (run_eq_struct (xs := (c_colon_reader.cs x).toArray) (ys := (c_colon_reader.cs y).toArray) Tryd.underlying42 Tryd.stoodInHeld42).trans ?_
  refine Eq.trans (eqf_cons (c_colon_reader_f_g x) (c_colon_reader_f_g y) (by rfl) (by rfl) Tryd.isAgg40 Tryd.sizeOf40 (.inl rfl) (eqs_vec Tryd.underlying40 infoT39 Tryd.sizeOf39 Tryd.isAgg39 (.inr rfl) (eqs_int Tryd.underlying39)) (by omega) (eqf_cons (c_colon_reader_f_n x) (c_colon_reader_f_n y) (by rfl) (by rfl) Tryd.isAgg3 Tryd.sizeOf3 (.inr rfl) (eqs_int Tryd.underlying3) (by omega) (eqf_cons (c_colon_reader_f_gap x) (c_colon_reader_f_gap y) (by rfl) (by rfl) Tryd.isAgg3 Tryd.sizeOf3 (.inr rfl) (eqs_int Tryd.underlying3) (by omega) eqf_nil))) ?_
  congr 1
  cases x; cases y
  rw [Bool.eq_iff_iff]; simp
theorem opn_colon_reader_42 : Opn Tryd.prog 42 c_colon_reader ok_colon_reader := fun enc w base spare held fuel cs d ps hd => by
  cases fuel with
  | zero => exact (opn_zero hd).elim
  | succ fuel =>
    obtain ⟨hlen, hf⟩ := opn_fields Tryd.underlying42 hd
    rw [show Tryd.prog.cellsOf 42 = 10 from by kernel_rfl] at hlen
    obtain ⟨d0, p0, h0⟩ : ∃ d' p', DataW.trod enc Tryd.prog w base spare held fuel 40 ((cs.drop 0).take (Tryd.prog.cellsOf 40)) = some (d', p') := hf 0 _ rfl
    obtain ⟨x0, e0, o0⟩ := (opn_vec Tryd.underlying40 (by kernel_rfl) (by kernel_rfl) (opn_int Tryd.underlying39)) enc w base spare held fuel _ _ _ h0
    rw [show Tryd.prog.cellsOf 40 = 8 from by kernel_rfl] at e0
    obtain ⟨d1, p1, h1⟩ : ∃ d' p', DataW.trod enc Tryd.prog w base spare held fuel 3 ((cs.drop 8).take (Tryd.prog.cellsOf 3)) = some (d', p') := hf 1 _ rfl
    obtain ⟨x1, e1, o1⟩ := (opn_int Tryd.underlying3) enc w base spare held fuel _ _ _ h1
    rw [show Tryd.prog.cellsOf 3 = 1 from by kernel_rfl] at e1
    obtain ⟨d2, p2, h2⟩ : ∃ d' p', DataW.trod enc Tryd.prog w base spare held fuel 3 ((cs.drop 9).take (Tryd.prog.cellsOf 3)) = some (d', p') := hf 2 _ rfl
    obtain ⟨x2, e2, o2⟩ := (opn_int Tryd.underlying3) enc w base spare held fuel _ _ _ h2
    rw [show Tryd.prog.cellsOf 3 = 1 from by kernel_rfl] at e2
    refine ⟨⟨x0, x1, x2⟩, ?_, o0, o1, o2⟩
    show cs = Cd.cs (cVec (cInt .u16) 8 (by decide)) x0 ++ (Cd.cs (cInt .i64) x1 ++ (Cd.cs (cInt .i64) x2 ++ []))
    rw [← e0, ← e1, ← e2]
    exact (split_cons (l := cs) (o := 0) (k := 8) (split_cons (l := cs) (o := 8) (k := 1) (split_cons (l := cs) (o := 9) (k := 1) (split_nil (l := cs) (o := 10) (by omega)))))
theorem places_colon_reader_42 : ∀ w, ((#[{ name := "g", type := 40, offset := 0, embedded := false, tag := "", pkgPath := "crawlway/colon", byteOffset := 0 }, { name := "n", type := 3, offset := 8, embedded := false, tag := "", pkgPath := "crawlway/colon", byteOffset := 16 }, { name := "gap", type := 3, offset := 9, embedded := false, tag := "", pkgPath := "crawlway/colon", byteOffset := 24 }] : Array Field).mapM fun f => (do pure (f.offset, ← sizeOf f.type) : Sem (Nat × Nat))).run Tryd.prog w = .ok #[(0, 8), (8, 1), (9, 1)] w := fun w => by
  simp [Tryd.sizeOf40 w, Tryd.sizeOf3 w, Tryd.sizeOf3 w]
structure S_errors_errorString where
  f_s : ByteArray
  deriving DecidableEq, Inhabited
def c_errors_errorString : Cd S_errors_errorString := ⟨1, fun x => Cd.cs cStr x.f_s ++ [], fun x => by simp only [List.length_append, Cd.len, List.length_nil] <;> rfl, fun x v hv => by
  simp only [List.mem_append, List.not_mem_nil, or_false] at hv
  rcases hv with hv
  all_goals exact Cd.one _ _ _ hv, by decide⟩
def ok_errors_errorString (x : S_errors_errorString) : Prop := (fun s : ByteArray => s.size ≤ maxLen) x.f_s
theorem c_errors_errorString_f_s (x : S_errors_errorString) : Lens (c_errors_errorString.cs x) 0 cStr x.f_s (fun z => c_errors_errorString.cs { x with f_s := z }) :=
  ⟨[], [], by simp [c_errors_errorString], by simp only [List.length_append, Cd.len, List.length_nil] <;> rfl, fun z => by simp [c_errors_errorString]⟩
theorem eq_errors_errorString_115 : Eqs Tryd.prog 115 c_errors_errorString true 1 := fun d hd x y w => by
  obtain ⟨d, rfl⟩ : ∃ e, d = e + 1 := ⟨d - 1, by omega⟩
  refine (run_eq_struct (xs := (c_errors_errorString.cs x).toArray) (ys := (c_errors_errorString.cs y).toArray) Tryd.underlying115 Tryd.stoodInHeld115).trans ?_
  refine Eq.trans (eqf_cons (c_errors_errorString_f_s x) (c_errors_errorString_f_s y) (by rfl) (by rfl) Tryd.isAgg9 Tryd.sizeOf9 (.inr rfl) (eqs_str Tryd.underlying9) (by omega) eqf_nil) ?_
  congr 1
  cases x; cases y
  rw [Bool.eq_iff_iff]; simp
theorem opn_errors_errorString_115 : Opn Tryd.prog 115 c_errors_errorString ok_errors_errorString := fun enc w base spare held fuel cs d ps hd => by
  cases fuel with
  | zero => exact (opn_zero hd).elim
  | succ fuel =>
    obtain ⟨hlen, hf⟩ := opn_fields Tryd.underlying115 hd
    rw [show Tryd.prog.cellsOf 115 = 1 from by kernel_rfl] at hlen
    obtain ⟨d0, p0, h0⟩ : ∃ d' p', DataW.trod enc Tryd.prog w base spare held fuel 9 ((cs.drop 0).take (Tryd.prog.cellsOf 9)) = some (d', p') := hf 0 _ rfl
    obtain ⟨x0, e0, o0⟩ := (opn_str Tryd.underlying9) enc w base spare held fuel _ _ _ h0
    rw [show Tryd.prog.cellsOf 9 = 1 from by kernel_rfl] at e0
    refine ⟨⟨x0⟩, ?_, o0⟩
    show cs = Cd.cs cStr x0 ++ []
    rw [← e0]
    exact (split_cons (l := cs) (o := 0) (k := 1) (split_nil (l := cs) (o := 1) (by omega)))
theorem places_errors_errorString_115 : ∀ w, ((#[{ name := "s", type := 9, offset := 0, embedded := false, tag := "", pkgPath := "errors", byteOffset := 0 }] : Array Field).mapM fun f => (do pure (f.offset, ← sizeOf f.type) : Sem (Nat × Nat))).run Tryd.prog w = .ok #[(0, 1)] w := fun w => by
  simp [Tryd.sizeOf9 w]
end Go.Proofs.YtcllgijeihiajaaDoor
