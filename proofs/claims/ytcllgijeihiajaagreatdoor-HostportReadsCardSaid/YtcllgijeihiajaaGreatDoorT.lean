/- The types of the program as Lean types, how they lie in cells, and what == says of them; by a program of this project (gen.py). -/
import Derived.Test.YtcllgijeihiajaaGreatDoorO
import Derived.Test.YtcllgijeihiajaaGreatDoorProg
set_option linter.unusedVariables false
set_option linter.unusedSimpArgs false
namespace Go.Proofs.YtcllgijeihiajaaGreatDoor
open E Go.RowKit
theorem infoT3_is : (Tryz.prog.info? 3).isSome = true := by kernel_rfl
noncomputable def infoT3_v : TypeInfo := (Tryz.prog.info? 3).get infoT3_is
theorem infoT3 : Tryz.prog.info? 3 = some infoT3_v := (Option.some_get _).symm
theorem infoT5_is : (Tryz.prog.info? 5).isSome = true := by kernel_rfl
noncomputable def infoT5_v : TypeInfo := (Tryz.prog.info? 5).get infoT5_is
theorem infoT5 : Tryz.prog.info? 5 = some infoT5_v := (Option.some_get _).symm
theorem infoT9_is : (Tryz.prog.info? 9).isSome = true := by kernel_rfl
noncomputable def infoT9_v : TypeInfo := (Tryz.prog.info? 9).get infoT9_is
theorem infoT9 : Tryz.prog.info? 9 = some infoT9_v := (Option.some_get _).symm
theorem infoT37_is : (Tryz.prog.info? 37).isSome = true := by kernel_rfl
noncomputable def infoT37_v : TypeInfo := (Tryz.prog.info? 37).get infoT37_is
theorem infoT37 : Tryz.prog.info? 37 = some infoT37_v := (Option.some_get _).symm
theorem infoT82_is : (Tryz.prog.info? 82).isSome = true := by kernel_rfl
noncomputable def infoT82_v : TypeInfo := (Tryz.prog.info? 82).get infoT82_is
theorem infoT82 : Tryz.prog.info? 82 = some infoT82_v := (Option.some_get _).symm
structure S_api_Addr where
  f_V : Int
  f_B : (Vector Int 16)
  deriving DecidableEq, Inhabited
def c_api_Addr : Cd S_api_Addr := ⟨17, fun x => Cd.cs (cInt .i64) x.f_V ++ (Cd.cs (cVec (cInt .u8) 16 (by decide)) x.f_B ++ []), fun x => by simp only [List.length_append, Cd.len, List.length_nil] <;> rfl, fun x v hv => by
  simp only [List.mem_append, List.not_mem_nil, or_false] at hv
  rcases hv with hv | hv
  all_goals exact Cd.one _ _ _ hv, by decide⟩
def ok_api_Addr (x : S_api_Addr) : Prop := (fun n : Int => (Lit.int .i64 n).wf = true) x.f_V ∧ (fun v : (Vector Int 16) => ∀ x ∈ v.toList, (fun n : Int => (Lit.int .u8 n).wf = true) x) x.f_B
theorem c_api_Addr_f_V (x : S_api_Addr) : Lens (c_api_Addr.cs x) 0 (cInt .i64) x.f_V (fun z => c_api_Addr.cs { x with f_V := z }) :=
  ⟨[], Cd.cs (cVec (cInt .u8) 16 (by decide)) x.f_B ++ [], by simp [c_api_Addr], by simp only [List.length_append, Cd.len, List.length_nil] <;> rfl, fun z => by simp [c_api_Addr]⟩
theorem c_api_Addr_f_B (x : S_api_Addr) : Lens (c_api_Addr.cs x) 1 (cVec (cInt .u8) 16 (by decide)) x.f_B (fun z => c_api_Addr.cs { x with f_B := z }) :=
  ⟨Cd.cs (cInt .i64) x.f_V ++ [], [], by simp [c_api_Addr], by simp only [List.length_append, Cd.len, List.length_nil] <;> rfl, fun z => by simp [c_api_Addr]⟩
theorem eq_api_Addr_24 : Eqs Tryz.prog 24 c_api_Addr true 2 := fun d hd x y w => by
  obtain ⟨d, rfl⟩ : ∃ e, d = e + 1 := ⟨d - 1, by omega⟩
  refine (run_eq_struct (xs := (c_api_Addr.cs x).toArray) (ys := (c_api_Addr.cs y).toArray) Tryz.underlying24 Tryz.stoodInHeld24).trans ?_
  refine Eq.trans (eqf_cons (c_api_Addr_f_V x) (c_api_Addr_f_V y) (by rfl) (by rfl) Tryz.isAgg3 Tryz.sizeOf3 (.inr rfl) (eqs_int Tryz.underlying3) (by omega) (eqf_cons (c_api_Addr_f_B x) (c_api_Addr_f_B y) (by rfl) (by rfl) Tryz.isAgg22 Tryz.sizeOf22 (.inl rfl) (eqs_vec Tryz.underlying22 infoT5 Tryz.sizeOf5 Tryz.isAgg5 (.inr rfl) (eqs_int Tryz.underlying5)) (by omega) eqf_nil)) ?_
  congr 1
  cases x; cases y
  rw [Bool.eq_iff_iff]; simp
theorem opn_api_Addr_24 : Opn Tryz.prog 24 c_api_Addr ok_api_Addr := fun enc w base spare held fuel cs d ps hd => by
  cases fuel with
  | zero => exact (opn_zero hd).elim
  | succ fuel =>
    obtain ⟨hlen, hf⟩ := opn_fields Tryz.underlying24 hd
    rw [show Tryz.prog.cellsOf 24 = 17 from by kernel_rfl] at hlen
    obtain ⟨d0, p0, h0⟩ : ∃ d' p', DataW.trod enc Tryz.prog w base spare held fuel 3 ((cs.drop 0).take (Tryz.prog.cellsOf 3)) = some (d', p') := hf 0 _ rfl
    obtain ⟨x0, e0, o0⟩ := (opn_int Tryz.underlying3) enc w base spare held fuel _ _ _ h0
    rw [show Tryz.prog.cellsOf 3 = 1 from by kernel_rfl] at e0
    obtain ⟨d1, p1, h1⟩ : ∃ d' p', DataW.trod enc Tryz.prog w base spare held fuel 22 ((cs.drop 1).take (Tryz.prog.cellsOf 22)) = some (d', p') := hf 1 _ rfl
    obtain ⟨x1, e1, o1⟩ := (opn_vec Tryz.underlying22 (by kernel_rfl) (by kernel_rfl) (opn_int Tryz.underlying5)) enc w base spare held fuel _ _ _ h1
    rw [show Tryz.prog.cellsOf 22 = 16 from by kernel_rfl] at e1
    refine ⟨⟨x0, x1⟩, ?_, o0, o1⟩
    show cs = Cd.cs (cInt .i64) x0 ++ (Cd.cs (cVec (cInt .u8) 16 (by decide)) x1 ++ [])
    rw [← e0, ← e1]
    exact (split_cons (l := cs) (o := 0) (k := 1) (split_cons (l := cs) (o := 1) (k := 16) (split_nil (l := cs) (o := 17) (by omega))))
theorem places_api_Addr_24 : ∀ w, ((#[{ name := "V", type := 3, offset := 0, embedded := false, tag := "", pkgPath := "", byteOffset := 0 }, { name := "B", type := 22, offset := 1, embedded := false, tag := "", pkgPath := "", byteOffset := 8 }] : Array Field).mapM fun f => (do pure (f.offset, ← sizeOf f.type) : Sem (Nat × Nat))).run Tryz.prog w = .ok #[(0, 1), (1, 16)] w := fun w => by
  simp [Tryz.sizeOf3 w, Tryz.sizeOf22 w]
structure S_api_Endpoint where
  f_A : S_api_Addr
  f_Port : Int
  deriving DecidableEq, Inhabited
def c_api_Endpoint : Cd S_api_Endpoint := ⟨18, fun x => Cd.cs c_api_Addr x.f_A ++ (Cd.cs (cInt .i64) x.f_Port ++ []), fun x => by simp only [List.length_append, Cd.len, List.length_nil] <;> rfl, fun x v hv => by
  simp only [List.mem_append, List.not_mem_nil, or_false] at hv
  rcases hv with hv | hv
  all_goals exact Cd.one _ _ _ hv, by decide⟩
def ok_api_Endpoint (x : S_api_Endpoint) : Prop := ok_api_Addr x.f_A ∧ (fun n : Int => (Lit.int .i64 n).wf = true) x.f_Port
theorem c_api_Endpoint_f_A (x : S_api_Endpoint) : Lens (c_api_Endpoint.cs x) 0 c_api_Addr x.f_A (fun z => c_api_Endpoint.cs { x with f_A := z }) :=
  ⟨[], Cd.cs (cInt .i64) x.f_Port ++ [], by simp [c_api_Endpoint], by simp only [List.length_append, Cd.len, List.length_nil] <;> rfl, fun z => by simp [c_api_Endpoint]⟩
theorem c_api_Endpoint_f_Port (x : S_api_Endpoint) : Lens (c_api_Endpoint.cs x) 17 (cInt .i64) x.f_Port (fun z => c_api_Endpoint.cs { x with f_Port := z }) :=
  ⟨Cd.cs c_api_Addr x.f_A ++ [], [], by simp [c_api_Endpoint], by simp only [List.length_append, Cd.len, List.length_nil] <;> rfl, fun z => by simp [c_api_Endpoint]⟩
theorem eq_api_Endpoint_26 : Eqs Tryz.prog 26 c_api_Endpoint true 3 := fun d hd x y w => by
  obtain ⟨d, rfl⟩ : ∃ e, d = e + 1 := ⟨d - 1, by omega⟩
  refine (run_eq_struct (xs := (c_api_Endpoint.cs x).toArray) (ys := (c_api_Endpoint.cs y).toArray) Tryz.underlying26 Tryz.stoodInHeld26).trans ?_
  refine Eq.trans (eqf_cons (c_api_Endpoint_f_A x) (c_api_Endpoint_f_A y) (by rfl) (by rfl) Tryz.isAgg24 Tryz.sizeOf24 (.inl rfl) (eq_api_Addr_24) (by omega) (eqf_cons (c_api_Endpoint_f_Port x) (c_api_Endpoint_f_Port y) (by rfl) (by rfl) Tryz.isAgg3 Tryz.sizeOf3 (.inr rfl) (eqs_int Tryz.underlying3) (by omega) eqf_nil)) ?_
  congr 1
  cases x; cases y
  rw [Bool.eq_iff_iff]; simp
theorem opn_api_Endpoint_26 : Opn Tryz.prog 26 c_api_Endpoint ok_api_Endpoint := fun enc w base spare held fuel cs d ps hd => by
  cases fuel with
  | zero => exact (opn_zero hd).elim
  | succ fuel =>
    obtain ⟨hlen, hf⟩ := opn_fields Tryz.underlying26 hd
    rw [show Tryz.prog.cellsOf 26 = 18 from by kernel_rfl] at hlen
    obtain ⟨d0, p0, h0⟩ : ∃ d' p', DataW.trod enc Tryz.prog w base spare held fuel 24 ((cs.drop 0).take (Tryz.prog.cellsOf 24)) = some (d', p') := hf 0 _ rfl
    obtain ⟨x0, e0, o0⟩ := (opn_api_Addr_24) enc w base spare held fuel _ _ _ h0
    rw [show Tryz.prog.cellsOf 24 = 17 from by kernel_rfl] at e0
    obtain ⟨d1, p1, h1⟩ : ∃ d' p', DataW.trod enc Tryz.prog w base spare held fuel 3 ((cs.drop 17).take (Tryz.prog.cellsOf 3)) = some (d', p') := hf 1 _ rfl
    obtain ⟨x1, e1, o1⟩ := (opn_int Tryz.underlying3) enc w base spare held fuel _ _ _ h1
    rw [show Tryz.prog.cellsOf 3 = 1 from by kernel_rfl] at e1
    refine ⟨⟨x0, x1⟩, ?_, o0, o1⟩
    show cs = Cd.cs c_api_Addr x0 ++ (Cd.cs (cInt .i64) x1 ++ [])
    rw [← e0, ← e1]
    exact (split_cons (l := cs) (o := 0) (k := 17) (split_cons (l := cs) (o := 17) (k := 1) (split_nil (l := cs) (o := 18) (by omega))))
theorem places_api_Endpoint_26 : ∀ w, ((#[{ name := "A", type := 24, offset := 0, embedded := false, tag := "", pkgPath := "", byteOffset := 0 }, { name := "Port", type := 3, offset := 17, embedded := false, tag := "", pkgPath := "", byteOffset := 24 }] : Array Field).mapM fun f => (do pure (f.offset, ← sizeOf f.type) : Sem (Nat × Nat))).run Tryz.prog w = .ok #[(0, 17), (17, 1)] w := fun w => by
  simp [Tryz.sizeOf24 w, Tryz.sizeOf3 w]
structure S_colon_reader where
  f_g : (Vector Int 8)
  f_n : Int
  f_gap : Int
  deriving DecidableEq, Inhabited
def c_colon_reader : Cd S_colon_reader := ⟨10, fun x => Cd.cs (cVec (cInt .u16) 8 (by decide)) x.f_g ++ (Cd.cs (cInt .i64) x.f_n ++ (Cd.cs (cInt .i64) x.f_gap ++ [])), fun x => by simp only [List.length_append, Cd.len, List.length_nil] <;> rfl, fun x v hv => by
  simp only [List.mem_append, List.not_mem_nil, or_false] at hv
  rcases hv with hv | hv | hv
  all_goals exact Cd.one _ _ _ hv, by decide⟩
def ok_colon_reader (x : S_colon_reader) : Prop := (fun v : (Vector Int 8) => ∀ x ∈ v.toList, (fun n : Int => (Lit.int .u16 n).wf = true) x) x.f_g ∧ (fun n : Int => (Lit.int .i64 n).wf = true) x.f_n ∧ (fun n : Int => (Lit.int .i64 n).wf = true) x.f_gap
theorem c_colon_reader_f_g (x : S_colon_reader) : Lens (c_colon_reader.cs x) 0 (cVec (cInt .u16) 8 (by decide)) x.f_g (fun z => c_colon_reader.cs { x with f_g := z }) :=
  ⟨[], Cd.cs (cInt .i64) x.f_n ++ (Cd.cs (cInt .i64) x.f_gap ++ []), by simp [c_colon_reader], by simp only [List.length_append, Cd.len, List.length_nil] <;> rfl, fun z => by simp [c_colon_reader]⟩
theorem c_colon_reader_f_n (x : S_colon_reader) : Lens (c_colon_reader.cs x) 8 (cInt .i64) x.f_n (fun z => c_colon_reader.cs { x with f_n := z }) :=
  ⟨Cd.cs (cVec (cInt .u16) 8 (by decide)) x.f_g ++ [], Cd.cs (cInt .i64) x.f_gap ++ [], by simp [c_colon_reader], by simp only [List.length_append, Cd.len, List.length_nil] <;> rfl, fun z => by simp [c_colon_reader]⟩
theorem c_colon_reader_f_gap (x : S_colon_reader) : Lens (c_colon_reader.cs x) 9 (cInt .i64) x.f_gap (fun z => c_colon_reader.cs { x with f_gap := z }) :=
  ⟨Cd.cs (cVec (cInt .u16) 8 (by decide)) x.f_g ++ (Cd.cs (cInt .i64) x.f_n ++ []), [], by simp [c_colon_reader], by simp only [List.length_append, Cd.len, List.length_nil] <;> rfl, fun z => by simp [c_colon_reader]⟩
theorem eq_colon_reader_97 : Eqs Tryz.prog 97 c_colon_reader true 2 := fun d hd x y w => by
  obtain ⟨d, rfl⟩ : ∃ e, d = e + 1 := ⟨d - 1, by omega⟩
  refine (run_eq_struct (xs := (c_colon_reader.cs x).toArray) (ys := (c_colon_reader.cs y).toArray) Tryz.underlying97 Tryz.stoodInHeld97).trans ?_
  refine Eq.trans (eqf_cons (c_colon_reader_f_g x) (c_colon_reader_f_g y) (by rfl) (by rfl) Tryz.isAgg83 Tryz.sizeOf83 (.inl rfl) (eqs_vec Tryz.underlying83 infoT82 Tryz.sizeOf82 Tryz.isAgg82 (.inr rfl) (eqs_int Tryz.underlying82)) (by omega) (eqf_cons (c_colon_reader_f_n x) (c_colon_reader_f_n y) (by rfl) (by rfl) Tryz.isAgg3 Tryz.sizeOf3 (.inr rfl) (eqs_int Tryz.underlying3) (by omega) (eqf_cons (c_colon_reader_f_gap x) (c_colon_reader_f_gap y) (by rfl) (by rfl) Tryz.isAgg3 Tryz.sizeOf3 (.inr rfl) (eqs_int Tryz.underlying3) (by omega) eqf_nil))) ?_
  congr 1
  cases x; cases y
  rw [Bool.eq_iff_iff]; simp
theorem opn_colon_reader_97 : Opn Tryz.prog 97 c_colon_reader ok_colon_reader := fun enc w base spare held fuel cs d ps hd => by
  cases fuel with
  | zero => exact (opn_zero hd).elim
  | succ fuel =>
    obtain ⟨hlen, hf⟩ := opn_fields Tryz.underlying97 hd
    rw [show Tryz.prog.cellsOf 97 = 10 from by kernel_rfl] at hlen
    obtain ⟨d0, p0, h0⟩ : ∃ d' p', DataW.trod enc Tryz.prog w base spare held fuel 83 ((cs.drop 0).take (Tryz.prog.cellsOf 83)) = some (d', p') := hf 0 _ rfl
    obtain ⟨x0, e0, o0⟩ := (opn_vec Tryz.underlying83 (by kernel_rfl) (by kernel_rfl) (opn_int Tryz.underlying82)) enc w base spare held fuel _ _ _ h0
    rw [show Tryz.prog.cellsOf 83 = 8 from by kernel_rfl] at e0
    obtain ⟨d1, p1, h1⟩ : ∃ d' p', DataW.trod enc Tryz.prog w base spare held fuel 3 ((cs.drop 8).take (Tryz.prog.cellsOf 3)) = some (d', p') := hf 1 _ rfl
    obtain ⟨x1, e1, o1⟩ := (opn_int Tryz.underlying3) enc w base spare held fuel _ _ _ h1
    rw [show Tryz.prog.cellsOf 3 = 1 from by kernel_rfl] at e1
    obtain ⟨d2, p2, h2⟩ : ∃ d' p', DataW.trod enc Tryz.prog w base spare held fuel 3 ((cs.drop 9).take (Tryz.prog.cellsOf 3)) = some (d', p') := hf 2 _ rfl
    obtain ⟨x2, e2, o2⟩ := (opn_int Tryz.underlying3) enc w base spare held fuel _ _ _ h2
    rw [show Tryz.prog.cellsOf 3 = 1 from by kernel_rfl] at e2
    refine ⟨⟨x0, x1, x2⟩, ?_, o0, o1, o2⟩
    show cs = Cd.cs (cVec (cInt .u16) 8 (by decide)) x0 ++ (Cd.cs (cInt .i64) x1 ++ (Cd.cs (cInt .i64) x2 ++ []))
    rw [← e0, ← e1, ← e2]
    exact (split_cons (l := cs) (o := 0) (k := 8) (split_cons (l := cs) (o := 8) (k := 1) (split_cons (l := cs) (o := 9) (k := 1) (split_nil (l := cs) (o := 10) (by omega)))))
theorem places_colon_reader_97 : ∀ w, ((#[{ name := "g", type := 83, offset := 0, embedded := false, tag := "", pkgPath := "crawlway/colon", byteOffset := 0 }, { name := "n", type := 3, offset := 8, embedded := false, tag := "", pkgPath := "crawlway/colon", byteOffset := 16 }, { name := "gap", type := 3, offset := 9, embedded := false, tag := "", pkgPath := "crawlway/colon", byteOffset := 24 }] : Array Field).mapM fun f => (do pure (f.offset, ← sizeOf f.type) : Sem (Nat × Nat))).run Tryz.prog w = .ok #[(0, 8), (8, 1), (9, 1)] w := fun w => by
  simp [Tryz.sizeOf83 w, Tryz.sizeOf3 w, Tryz.sizeOf3 w]
structure S_errors_errorString where
  f_s : ByteArray
  deriving DecidableEq, Inhabited
def c_errors_errorString : Cd S_errors_errorString := ⟨1, fun x => Cd.cs cStr x.f_s ++ [], fun x => by simp only [List.length_append, Cd.len, List.length_nil] <;> rfl, fun x v hv => by
  simp only [List.mem_append, List.not_mem_nil, or_false] at hv
  rcases hv with hv
  all_goals exact Cd.one _ _ _ hv, by decide⟩
def ok_errors_errorString (x : S_errors_errorString) : Prop := (fun s : ByteArray => s.size ≤ maxLen) x.f_s
theorem c_errors_errorString_f_s (x : S_errors_errorString) : Lens (c_errors_errorString.cs x) 0 cStr x.f_s (fun z => c_errors_errorString.cs { x with f_s := z }) :=
  ⟨[], [], by simp [c_errors_errorString], by simp only [List.length_append, Cd.len, List.length_nil] <;> rfl, fun z => by simp [c_errors_errorString]⟩
theorem eq_errors_errorString_152 : Eqs Tryz.prog 152 c_errors_errorString true 1 := fun d hd x y w => by
  obtain ⟨d, rfl⟩ : ∃ e, d = e + 1 := ⟨d - 1, by omega⟩
  refine (run_eq_struct (xs := (c_errors_errorString.cs x).toArray) (ys := (c_errors_errorString.cs y).toArray) Tryz.underlying152 Tryz.stoodInHeld152).trans ?_
  refine Eq.trans (eqf_cons (c_errors_errorString_f_s x) (c_errors_errorString_f_s y) (by rfl) (by rfl) Tryz.isAgg9 Tryz.sizeOf9 (.inr rfl) (eqs_str Tryz.underlying9) (by omega) eqf_nil) ?_
  congr 1
  cases x; cases y
  rw [Bool.eq_iff_iff]; simp
theorem opn_errors_errorString_152 : Opn Tryz.prog 152 c_errors_errorString ok_errors_errorString := fun enc w base spare held fuel cs d ps hd => by
  cases fuel with
  | zero => exact (opn_zero hd).elim
  | succ fuel =>
    obtain ⟨hlen, hf⟩ := opn_fields Tryz.underlying152 hd
    rw [show Tryz.prog.cellsOf 152 = 1 from by kernel_rfl] at hlen
    obtain ⟨d0, p0, h0⟩ : ∃ d' p', DataW.trod enc Tryz.prog w base spare held fuel 9 ((cs.drop 0).take (Tryz.prog.cellsOf 9)) = some (d', p') := hf 0 _ rfl
    obtain ⟨x0, e0, o0⟩ := (opn_str Tryz.underlying9) enc w base spare held fuel _ _ _ h0
    rw [show Tryz.prog.cellsOf 9 = 1 from by kernel_rfl] at e0
    refine ⟨⟨x0⟩, ?_, o0⟩
    show cs = Cd.cs cStr x0 ++ []
    rw [← e0]
    exact (split_cons (l := cs) (o := 0) (k := 1) (split_nil (l := cs) (o := 1) (by omega)))
theorem places_errors_errorString_152 : ∀ w, ((#[{ name := "s", type := 9, offset := 0, embedded := false, tag := "", pkgPath := "errors", byteOffset := 0 }] : Array Field).mapM fun f => (do pure (f.offset, ← sizeOf f.type) : Sem (Nat × Nat))).run Tryz.prog w = .ok #[(0, 1)] w := fun w => by
  simp [Tryz.sizeOf9 w]
end Go.Proofs.YtcllgijeihiajaaGreatDoor
