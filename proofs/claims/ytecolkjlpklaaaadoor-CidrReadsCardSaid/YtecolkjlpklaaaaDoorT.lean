/- The types of the program as Lean types, how they lie in cells, and what == says of them; by a program of this project (gen.py). -/
import Derived.Test.YtecolkjlpklaaaaDoorO
import Derived.Test.YtecolkjlpklaaaaDoorProg
set_option linter.unusedVariables false
set_option linter.unusedSimpArgs false
namespace Go.Proofs.YtecolkjlpklaaaaDoor
open E Go.RowKit
theorem infoT3_is : (Tryd.prog.info? 3).isSome = true := by kernel_rfl
noncomputable def infoT3_v : TypeInfo := (Tryd.prog.info? 3).get infoT3_is
theorem infoT3 : Tryd.prog.info? 3 = some infoT3_v := (Option.some_get _).symm
theorem infoT5_is : (Tryd.prog.info? 5).isSome = true := by kernel_rfl
noncomputable def infoT5_v : TypeInfo := (Tryd.prog.info? 5).get infoT5_is
theorem infoT5 : Tryd.prog.info? 5 = some infoT5_v := (Option.some_get _).symm
theorem infoT9_is : (Tryd.prog.info? 9).isSome = true := by kernel_rfl
noncomputable def infoT9_v : TypeInfo := (Tryd.prog.info? 9).get infoT9_is
theorem infoT9 : Tryd.prog.info? 9 = some infoT9_v := (Option.some_get _).symm
theorem infoT83_is : (Tryd.prog.info? 83).isSome = true := by kernel_rfl
noncomputable def infoT83_v : TypeInfo := (Tryd.prog.info? 83).get infoT83_is
theorem infoT83 : Tryd.prog.info? 83 = some infoT83_v := (Option.some_get _).symm
theorem infoT88_is : (Tryd.prog.info? 88).isSome = true := by kernel_rfl
noncomputable def infoT88_v : TypeInfo := (Tryd.prog.info? 88).get infoT88_is
theorem infoT88 : Tryd.prog.info? 88 = some infoT88_v := (Option.some_get _).symm
structure S_api_Addr where
  f_V : Int
  f_B : (Vector Int 16)
  deriving DecidableEq, Inhabited
def c_api_Addr : Cd S_api_Addr := ⟨17, fun x => Cd.cs (cInt .i64) x.f_V ++ (Cd.cs (cVec (cInt .u8) 16 (by decide)) x.f_B ++ []), fun x => by simp only [List.length_append, Cd.len, List.length_nil] <;> rfl, fun x v hv => by
  simp only [List.mem_append, List.not_mem_nil, or_false] at hv
  rcases hv with hv | hv
  all_goals exact Cd.one _ _ _ hv, by decide⟩
def ok_api_Addr (x : S_api_Addr) : Prop := (fun n : Int => (Lit.int .i64 n).wf = true) x.f_V ∧ (fun v : (Vector Int 16) => ∀ x ∈ v.toList, (fun n : Int => (Lit.int .u8 n).wf = true) x) x.f_B
theorem c_api_Addr_f_V (x : S_api_Addr) : Lens (c_api_Addr.cs x) 0 (cInt .i64) x.f_V (fun z => c_api_Addr.cs { x with f_V := z }) :=
  ⟨[], Cd.cs (cVec (cInt .u8) 16 (by decide)) x.f_B ++ [], by simp [c_api_Addr], by simp only [List.length_append, Cd.len, List.length_nil] <;> rfl, fun z => by simp [c_api_Addr]⟩
theorem c_api_Addr_f_B (x : S_api_Addr) : Lens (c_api_Addr.cs x) 1 (cVec (cInt .u8) 16 (by decide)) x.f_B (fun z => c_api_Addr.cs { x with f_B := z }) :=
  ⟨Cd.cs (cInt .i64) x.f_V ++ [], [], by simp [c_api_Addr], by simp only [List.length_append, Cd.len, List.length_nil] <;> rfl, fun z => by simp [c_api_Addr]⟩
theorem eq_api_Addr_24 : Eqs Tryd.prog 24 c_api_Addr true 2 := fun d hd x y w => by
  obtain ⟨d, rfl⟩ : ∃ e, d = e + 1 := ⟨d - 1, by omega⟩
  refine (run_eq_struct (xs := (c_api_Addr.cs x).toArray) (ys := (c_api_Addr.cs y).toArray) Tryd.underlying24 Tryd.stoodInHeld24).trans ?_
  refine Eq.trans (eqf_cons (c_api_Addr_f_V x) (c_api_Addr_f_V y) (by rfl) (by rfl) Tryd.isAgg3 Tryd.sizeOf3 (.inr rfl) (eqs_int Tryd.underlying3) (by omega) (eqf_cons (c_api_Addr_f_B x) (c_api_Addr_f_B y) (by rfl) (by rfl) Tryd.isAgg22 Tryd.sizeOf22 (.inl rfl) (eqs_vec Tryd.underlying22 infoT5 Tryd.sizeOf5 Tryd.isAgg5 (.inr rfl) (eqs_int Tryd.underlying5)) (by omega) eqf_nil)) ?_
  congr 1
  cases x; cases y
  rw [Bool.eq_iff_iff]; simp
theorem opn_api_Addr_24 : Opn Tryd.prog 24 c_api_Addr ok_api_Addr := fun enc w base spare held fuel cs d ps hd => by
  cases fuel with
  | zero => exact (opn_zero hd).elim
  | succ fuel =>
    obtain ⟨hlen, hf⟩ := opn_fields Tryd.underlying24 hd
    rw [show Tryd.prog.cellsOf 24 = 17 from by kernel_rfl] at hlen
    obtain ⟨d0, p0, h0⟩ : ∃ d' p', DataW.trod enc Tryd.prog w base spare held fuel 3 ((cs.drop 0).take (Tryd.prog.cellsOf 3)) = some (d', p') := hf 0 _ rfl
    obtain ⟨x0, e0, o0⟩ := (opn_int Tryd.underlying3) enc w base spare held fuel _ _ _ h0
    rw [show Tryd.prog.cellsOf 3 = 1 from by kernel_rfl] at e0
    obtain ⟨d1, p1, h1⟩ : ∃ d' p', DataW.trod enc Tryd.prog w base spare held fuel 22 ((cs.drop 1).take (Tryd.prog.cellsOf 22)) = some (d', p') := hf 1 _ rfl
    obtain ⟨x1, e1, o1⟩ := (opn_vec Tryd.underlying22 (by kernel_rfl) (by kernel_rfl) (opn_int Tryd.underlying5)) enc w base spare held fuel _ _ _ h1
    rw [show Tryd.prog.cellsOf 22 = 16 from by kernel_rfl] at e1
    refine ⟨⟨x0, x1⟩, ?_, o0, o1⟩
    show cs = Cd.cs (cInt .i64) x0 ++ (Cd.cs (cVec (cInt .u8) 16 (by decide)) x1 ++ [])
    rw [← e0, ← e1]
    exact (split_cons (l := cs) (o := 0) (k := 1) (split_cons (l := cs) (o := 1) (k := 16) (split_nil (l := cs) (o := 17) (by omega))))
theorem places_api_Addr_24 : ∀ w, ((#[{ name := "V", type := 3, offset := 0, embedded := false, tag := "", pkgPath := "", byteOffset := 0 }, { name := "B", type := 22, offset := 1, embedded := false, tag := "", pkgPath := "", byteOffset := 8 }] : Array Field).mapM fun f => (do pure (f.offset, ← sizeOf f.type) : Sem (Nat × Nat))).run Tryd.prog w = .ok #[(0, 1), (1, 16)] w := fun w => by
  simp [Tryd.sizeOf3 w, Tryd.sizeOf22 w]
structure S_api_Prefix where
  f_A : S_api_Addr
  f_Bits : Int
  deriving DecidableEq, Inhabited
def c_api_Prefix : Cd S_api_Prefix := ⟨18, fun x => Cd.cs c_api_Addr x.f_A ++ (Cd.cs (cInt .i64) x.f_Bits ++ []), fun x => by simp only [List.length_append, Cd.len, List.length_nil] <;> rfl, fun x v hv => by
  simp only [List.mem_append, List.not_mem_nil, or_false] at hv
  rcases hv with hv | hv
  all_goals exact Cd.one _ _ _ hv, by decide⟩
def ok_api_Prefix (x : S_api_Prefix) : Prop := ok_api_Addr x.f_A ∧ (fun n : Int => (Lit.int .i64 n).wf = true) x.f_Bits
theorem c_api_Prefix_f_A (x : S_api_Prefix) : Lens (c_api_Prefix.cs x) 0 c_api_Addr x.f_A (fun z => c_api_Prefix.cs { x with f_A := z }) :=
  ⟨[], Cd.cs (cInt .i64) x.f_Bits ++ [], by simp [c_api_Prefix], by simp only [List.length_append, Cd.len, List.length_nil] <;> rfl, fun z => by simp [c_api_Prefix]⟩
theorem c_api_Prefix_f_Bits (x : S_api_Prefix) : Lens (c_api_Prefix.cs x) 17 (cInt .i64) x.f_Bits (fun z => c_api_Prefix.cs { x with f_Bits := z }) :=
  ⟨Cd.cs c_api_Addr x.f_A ++ [], [], by simp [c_api_Prefix], by simp only [List.length_append, Cd.len, List.length_nil] <;> rfl, fun z => by simp [c_api_Prefix]⟩
theorem eq_api_Prefix_50 : Eqs Tryd.prog 50 c_api_Prefix true 3 := fun d hd x y w => by
  obtain ⟨d, rfl⟩ : ∃ e, d = e + 1 := ⟨d - 1, by omega⟩
  refine (run_eq_struct (xs := (c_api_Prefix.cs x).toArray) (ys := (c_api_Prefix.cs y).toArray) Tryd.underlying50 Tryd.stoodInHeld50).trans ?_
  refine Eq.trans (eqf_cons (c_api_Prefix_f_A x) (c_api_Prefix_f_A y) (by rfl) (by rfl) Tryd.isAgg24 Tryd.sizeOf24 (.inl rfl) (eq_api_Addr_24) (by omega) (eqf_cons (c_api_Prefix_f_Bits x) (c_api_Prefix_f_Bits y) (by rfl) (by rfl) Tryd.isAgg3 Tryd.sizeOf3 (.inr rfl) (eqs_int Tryd.underlying3) (by omega) eqf_nil)) ?_
  congr 1
  cases x; cases y
  rw [Bool.eq_iff_iff]; simp
theorem opn_api_Prefix_50 : Opn Tryd.prog 50 c_api_Prefix ok_api_Prefix := fun enc w base spare held fuel cs d ps hd => by
  cases fuel with
  | zero => exact (opn_zero hd).elim
  | succ fuel =>
    obtain ⟨hlen, hf⟩ := opn_fields Tryd.underlying50 hd
    rw [show Tryd.prog.cellsOf 50 = 18 from by kernel_rfl] at hlen
    obtain ⟨d0, p0, h0⟩ : ∃ d' p', DataW.trod enc Tryd.prog w base spare held fuel 24 ((cs.drop 0).take (Tryd.prog.cellsOf 24)) = some (d', p') := hf 0 _ rfl
    obtain ⟨x0, e0, o0⟩ := (opn_api_Addr_24) enc w base spare held fuel _ _ _ h0
    rw [show Tryd.prog.cellsOf 24 = 17 from by kernel_rfl] at e0
    obtain ⟨d1, p1, h1⟩ : ∃ d' p', DataW.trod enc Tryd.prog w base spare held fuel 3 ((cs.drop 17).take (Tryd.prog.cellsOf 3)) = some (d', p') := hf 1 _ rfl
    obtain ⟨x1, e1, o1⟩ := (opn_int Tryd.underlying3) enc w base spare held fuel _ _ _ h1
    rw [show Tryd.prog.cellsOf 3 = 1 from by kernel_rfl] at e1
    refine ⟨⟨x0, x1⟩, ?_, o0, o1⟩
    show cs = Cd.cs c_api_Addr x0 ++ (Cd.cs (cInt .i64) x1 ++ [])
    rw [← e0, ← e1]
    exact (split_cons (l := cs) (o := 0) (k := 17) (split_cons (l := cs) (o := 17) (k := 1) (split_nil (l := cs) (o := 18) (by omega))))
theorem places_api_Prefix_50 : ∀ w, ((#[{ name := "A", type := 24, offset := 0, embedded := false, tag := "", pkgPath := "", byteOffset := 0 }, { name := "Bits", type := 3, offset := 17, embedded := false, tag := "", pkgPath := "", byteOffset := 24 }] : Array Field).mapM fun f => (do pure (f.offset, ← sizeOf f.type) : Sem (Nat × Nat))).run Tryd.prog w = .ok #[(0, 17), (17, 1)] w := fun w => by
  simp [Tryd.sizeOf24 w, Tryd.sizeOf3 w]
structure S_colon_reader where
  f_g : (Vector Int 8)
  f_n : Int
  f_gap : Int
  deriving DecidableEq, Inhabited
def c_colon_reader : Cd S_colon_reader := ⟨10, fun x => Cd.cs (cVec (cInt .u16) 8 (by decide)) x.f_g ++ (Cd.cs (cInt .i64) x.f_n ++ (Cd.cs (cInt .i64) x.f_gap ++ [])), fun x => by simp only [List.length_append, Cd.len, List.length_nil] <;> rfl, fun x v hv => by
  simp only [List.mem_append, List.not_mem_nil, or_false] at hv
  rcases hv with hv | hv | hv
  all_goals exact Cd.one _ _ _ hv, by decide⟩
def ok_colon_reader (x : S_colon_reader) : Prop := (fun v : (Vector Int 8) => ∀ x ∈ v.toList, (fun n : Int => (Lit.int .u16 n).wf = true) x) x.f_g ∧ (fun n : Int => (Lit.int .i64 n).wf = true) x.f_n ∧ (fun n : Int => (Lit.int .i64 n).wf = true) x.f_gap
theorem c_colon_reader_f_g (x : S_colon_reader) : Lens (c_colon_reader.cs x) 0 (cVec (cInt .u16) 8 (by decide)) x.f_g (fun z => c_colon_reader.cs { x with f_g := z }) :=
  ⟨[], Cd.cs (cInt .i64) x.f_n ++ (Cd.cs (cInt .i64) x.f_gap ++ []), by simp [c_colon_reader], by simp only [List.length_append, Cd.len, List.length_nil] <;> rfl, fun z => by simp [c_colon_reader]⟩
theorem c_colon_reader_f_n (x : S_colon_reader) : Lens (c_colon_reader.cs x) 8 (cInt .i64) x.f_n (fun z => c_colon_reader.cs { x with f_n := z }) :=
  ⟨Cd.cs (cVec (cInt .u16) 8 (by decide)) x.f_g ++ [], Cd.cs (cInt .i64) x.f_gap ++ [], by simp [c_colon_reader], by simp only [List.length_append, Cd.len, List.length_nil] <;> rfl, fun z => by simp [c_colon_reader]⟩
theorem c_colon_reader_f_gap (x : S_colon_reader) : Lens (c_colon_reader.cs x) 9 (cInt .i64) x.f_gap (fun z => c_colon_reader.cs { x with f_gap := z }) :=
  ⟨Cd.cs (cVec (cInt .u16) 8 (by decide)) x.f_g ++ (Cd.cs (cInt .i64) x.f_n ++ []), [], by simp [c_colon_reader], by simp only [List.length_append, Cd.len, List.length_nil] <;> rfl, fun z => by simp [c_colon_reader]⟩
theorem eq_colon_reader_97 : Eqs Tryd.prog 97 c_colon_reader true 2 := fun d hd x y w => by
  obtain ⟨d, rfl⟩ : ∃ e, d = e + 1 := ⟨d - 1, by omega⟩
  refine (run_eq_struct (xs := (c_colon_reader.cs x).toArray) (ys := (c_colon_reader.cs y).toArray) Tryd.underlying97 Tryd.stoodInHeld97).trans ?_
  refine Eq.trans (eqf_cons (c_colon_reader_f_g x) (c_colon_reader_f_g y) (by rfl) (by rfl) Tryd.isAgg89 Tryd.sizeOf89 (.inl rfl) (eqs_vec Tryd.underlying89 infoT88 Tryd.sizeOf88 Tryd.isAgg88 (.inr rfl) (eqs_int Tryd.underlying88)) (by omega) (eqf_cons (c_colon_reader_f_n x) (c_colon_reader_f_n y) (by rfl) (by rfl) Tryd.isAgg3 Tryd.sizeOf3 (.inr rfl) (eqs_int Tryd.underlying3) (by omega) (eqf_cons (c_colon_reader_f_gap x) (c_colon_reader_f_gap y) (by rfl) (by rfl) Tryd.isAgg3 Tryd.sizeOf3 (.inr rfl) (eqs_int Tryd.underlying3) (by omega) eqf_nil))) ?_
  congr 1
  cases x; cases y
  rw [Bool.eq_iff_iff]; simp
theorem opn_colon_reader_97 : Opn Tryd.prog 97 c_colon_reader ok_colon_reader := fun enc w base spare held fuel cs d ps hd => by
  cases fuel with
  | zero => exact (opn_zero hd).elim
  | succ fuel =>
    obtain ⟨hlen, hf⟩ := opn_fields Tryd.underlying97 hd
    rw [show Tryd.prog.cellsOf 97 = 10 from by kernel_rfl] at hlen
    obtain ⟨d0, p0, h0⟩ : ∃ d' p', DataW.trod enc Tryd.prog w base spare held fuel 89 ((cs.drop 0).take (Tryd.prog.cellsOf 89)) = some (d', p') := hf 0 _ rfl
    obtain ⟨x0, e0, o0⟩ := (opn_vec Tryd.underlying89 (by kernel_rfl) (by kernel_rfl) (opn_int Tryd.underlying88)) enc w base spare held fuel _ _ _ h0
    rw [show Tryd.prog.cellsOf 89 = 8 from by kernel_rfl] at e0
    obtain ⟨d1, p1, h1⟩ : ∃ d' p', DataW.trod enc Tryd.prog w base spare held fuel 3 ((cs.drop 8).take (Tryd.prog.cellsOf 3)) = some (d', p') := hf 1 _ rfl
    obtain ⟨x1, e1, o1⟩ := (opn_int Tryd.underlying3) enc w base spare held fuel _ _ _ h1
    rw [show Tryd.prog.cellsOf 3 = 1 from by kernel_rfl] at e1
    obtain ⟨d2, p2, h2⟩ : ∃ d' p', DataW.trod enc Tryd.prog w base spare held fuel 3 ((cs.drop 9).take (Tryd.prog.cellsOf 3)) = some (d', p') := hf 2 _ rfl
    obtain ⟨x2, e2, o2⟩ := (opn_int Tryd.underlying3) enc w base spare held fuel _ _ _ h2
    rw [show Tryd.prog.cellsOf 3 = 1 from by kernel_rfl] at e2
    refine ⟨⟨x0, x1, x2⟩, ?_, o0, o1, o2⟩
    show cs = Cd.cs (cVec (cInt .u16) 8 (by decide)) x0 ++ (Cd.cs (cInt .i64) x1 ++ (Cd.cs (cInt .i64) x2 ++ []))
    rw [← e0, ← e1, ← e2]
    exact (split_cons (l := cs) (o := 0) (k := 8) (split_cons (l := cs) (o := 8) (k := 1) (split_cons (l := cs) (o := 9) (k := 1) (split_nil (l := cs) (o := 10) (by omega)))))
theorem places_colon_reader_97 : ∀ w, ((#[{ name := "g", type := 89, offset := 0, embedded := false, tag := "", pkgPath := "crawlway/colon", byteOffset := 0 }, { name := "n", type := 3, offset := 8, embedded := false, tag := "", pkgPath := "crawlway/colon", byteOffset := 16 }, { name := "gap", type := 3, offset := 9, embedded := false, tag := "", pkgPath := "crawlway/colon", byteOffset := 24 }] : Array Field).mapM fun f => (do pure (f.offset, ← sizeOf f.type) : Sem (Nat × Nat))).run Tryd.prog w = .ok #[(0, 8), (8, 1), (9, 1)] w := fun w => by
  simp [Tryd.sizeOf89 w, Tryd.sizeOf3 w, Tryd.sizeOf3 w]
structure S_errors_errorString where
  f_s : ByteArray
  deriving DecidableEq, Inhabited
def c_errors_errorString : Cd S_errors_errorString := ⟨1, fun x => Cd.cs cStr x.f_s ++ [], fun x => by simp only [List.length_append, Cd.len, List.length_nil] <;> rfl, fun x v hv => by
  simp only [List.mem_append, List.not_mem_nil, or_false] at hv
  rcases hv with hv
  all_goals exact Cd.one _ _ _ hv, by decide⟩
def ok_errors_errorString (x : S_errors_errorString) : Prop := (fun s : ByteArray => s.size ≤ maxLen) x.f_s
theorem c_errors_errorString_f_s (x : S_errors_errorString) : Lens (c_errors_errorString.cs x) 0 cStr x.f_s (fun z => c_errors_errorString.cs { x with f_s := z }) :=
  ⟨[], [], by simp [c_errors_errorString], by simp only [List.length_append, Cd.len, List.length_nil] <;> rfl, fun z => by simp [c_errors_errorString]⟩
theorem eq_errors_errorString_163 : Eqs Tryd.prog 163 c_errors_errorString true 1 := fun d hd x y w => by
  obtain ⟨d, rfl⟩ : ∃ e, d = e + 1 := ⟨d - 1, by omega⟩
  refine (run_eq_struct (xs := (c_errors_errorString.cs x).toArray) (ys := (c_errors_errorString.cs y).toArray) Tryd.underlying163 Tryd.stoodInHeld163).trans ?_
  refine Eq.trans (eqf_cons (c_errors_errorString_f_s x) (c_errors_errorString_f_s y) (by rfl) (by rfl) Tryd.isAgg9 Tryd.sizeOf9 (.inr rfl) (eqs_str Tryd.underlying9) (by omega) eqf_nil) ?_
  congr 1
  cases x; cases y
  rw [Bool.eq_iff_iff]; simp
theorem opn_errors_errorString_163 : Opn Tryd.prog 163 c_errors_errorString ok_errors_errorString := fun enc w base spare held fuel cs d ps hd => by
  cases fuel with
  | zero => exact (opn_zero hd).elim
  | succ fuel =>
    obtain ⟨hlen, hf⟩ := opn_fields Tryd.underlying163 hd
    rw [show Tryd.prog.cellsOf 163 = 1 from by kernel_rfl] at hlen
    obtain ⟨d0, p0, h0⟩ : ∃ d' p', DataW.trod enc Tryd.prog w base spare held fuel 9 ((cs.drop 0).take (Tryd.prog.cellsOf 9)) = some (d', p') := hf 0 _ rfl
    obtain ⟨x0, e0, o0⟩ := (opn_str Tryd.underlying9) enc w base spare held fuel _ _ _ h0
    rw [show Tryd.prog.cellsOf 9 = 1 from by kernel_rfl] at e0
    refine ⟨⟨x0⟩, ?_, o0⟩
    show cs = Cd.cs cStr x0 ++ []
    rw [← e0]
    exact (split_cons (l := cs) (o := 0) (k := 1) (split_nil (l := cs) (o := 1) (by omega)))
theorem places_errors_errorString_163 : ∀ w, ((#[{ name := "s", type := 9, offset := 0, embedded := false, tag := "", pkgPath := "errors", byteOffset := 0 }] : Array Field).mapM fun f => (do pure (f.offset, ← sizeOf f.type) : Sem (Nat × Nat))).run Tryd.prog w = .ok #[(0, 1)] w := fun w => by
  simp [Tryd.sizeOf9 w]
end Go.Proofs.YtecolkjlpklaaaaDoor
