/-
  Closed facts of the program's tables, by the kernel. Conditions: none.
-/
import Derived.Test.YtcomjkbfmklfnaaDoorSepF
import Derived.Test.YtcomjkbfmklfnaaDoorProg
import Derived.KernelRfl
set_option linter.unusedSimpArgs false
set_option linter.unusedVariables false
namespace Go.Proofs.YtcomjkbfmklfnaaDoor
open Go.Conc Go.Sep

theorem mixed : Tryd.prog.follows .mixedOrders = true := by kernel_rfl
noncomputable def ti3 : TypeInfo := (Tryd.prog.info? 3).getD default
theorem info3 : Tryd.prog.info? 3 = some ti3 := by kernel_rfl
theorem size3 : ti3.size = 1 := by kernel_rfl
theorem bytes3 : ti3.bytes = 8 := by kernel_rfl
theorem zero3 : ti3.zero = some (Value.int IntKind.i64 0) := by kernel_rfl
noncomputable def ti22 : TypeInfo := (Tryd.prog.info? 22).getD default
theorem info22 : Tryd.prog.info? 22 = some ti22 := by kernel_rfl
theorem size22 : ti22.size = 1 := by kernel_rfl
theorem bytes22 : ti22.bytes = 24 := by kernel_rfl
theorem zero22 : ti22.zero = some (Value.slice none 0 0) := by kernel_rfl
noncomputable def ti23 : TypeInfo := (Tryd.prog.info? 23).getD default
theorem info23 : Tryd.prog.info? 23 = some ti23 := by kernel_rfl
theorem size23 : ti23.size = 1 := by kernel_rfl
theorem bytes23 : ti23.bytes = 24 := by kernel_rfl
theorem zero23 : ti23.zero = some (Value.slice none 0 0) := by kernel_rfl
noncomputable def ti25 : TypeInfo := (Tryd.prog.info? 25).getD default
theorem info25 : Tryd.prog.info? 25 = some ti25 := by kernel_rfl
theorem size25 : ti25.size = 1 := by kernel_rfl
theorem bytes25 : ti25.bytes = 24 := by kernel_rfl
theorem zero25 : ti25.zero = some (Value.slice none 0 0) := by kernel_rfl
noncomputable def ti27 : TypeInfo := (Tryd.prog.info? 27).getD default
theorem info27 : Tryd.prog.info? 27 = some ti27 := by kernel_rfl
theorem size27 : ti27.size = 1 := by kernel_rfl
theorem bytes27 : ti27.bytes = 16 := by kernel_rfl
theorem zero27 : ti27.zero = some (Value.nilIface) := by kernel_rfl
noncomputable def ti31 : TypeInfo := (Tryd.prog.info? 31).getD default
theorem info31 : Tryd.prog.info? 31 = some ti31 := by kernel_rfl
theorem size31 : ti31.size = 1 := by kernel_rfl
theorem bytes31 : ti31.bytes = 8 := by kernel_rfl
theorem zero31 : ti31.zero = some (Value.int IntKind.i64 0) := by kernel_rfl
noncomputable def ti33 : TypeInfo := (Tryd.prog.info? 33).getD default
theorem info33 : Tryd.prog.info? 33 = some ti33 := by kernel_rfl
theorem size33 : ti33.size = 1 := by kernel_rfl
theorem bytes33 : ti33.bytes = 24 := by kernel_rfl
theorem zero33 : ti33.zero = some (Value.slice none 0 0) := by kernel_rfl
noncomputable def ti37 : TypeInfo := (Tryd.prog.info? 37).getD default
theorem info37 : Tryd.prog.info? 37 = some ti37 := by kernel_rfl
theorem size37 : ti37.size = 2 := by kernel_rfl
theorem bytes37 : ti37.bytes = 16 := by kernel_rfl
theorem zero37 : ti37.zero = some (Value.agg #[Value.int IntKind.i64 0, Value.int IntKind.i64 0]) := by kernel_rfl
noncomputable def ti40 : TypeInfo := (Tryd.prog.info? 40).getD default
theorem info40 : Tryd.prog.info? 40 = some ti40 := by kernel_rfl
theorem size40 : ti40.size = 1 := by kernel_rfl
theorem bytes40 : ti40.bytes = 8 := by kernel_rfl
theorem zero40 : ti40.zero = some (Value.chan none) := by kernel_rfl
noncomputable def ti41 : TypeInfo := (Tryd.prog.info? 41).getD default
theorem info41 : Tryd.prog.info? 41 = some ti41 := by kernel_rfl
theorem size41 : ti41.size = 1 := by kernel_rfl
theorem bytes41 : ti41.bytes = 8 := by kernel_rfl
theorem zero41 : ti41.zero = some (Value.chan none) := by kernel_rfl
noncomputable def ti46 : TypeInfo := (Tryd.prog.info? 46).getD default
theorem info46 : Tryd.prog.info? 46 = some ti46 := by kernel_rfl
theorem size46 : ti46.size = 1 := by kernel_rfl
theorem bytes46 : ti46.bytes = 8 := by kernel_rfl
theorem zero46 : ti46.zero = some (Value.int IntKind.u64 0) := by kernel_rfl
noncomputable def ti48 : TypeInfo := (Tryd.prog.info? 48).getD default
theorem info48 : Tryd.prog.info? 48 = some ti48 := by kernel_rfl
theorem size48 : ti48.size = 1 := by kernel_rfl
theorem bytes48 : ti48.bytes = 8 := by kernel_rfl
theorem zero48 : ti48.zero = some (Value.agg #[Value.int IntKind.u64 0]) := by kernel_rfl
noncomputable def ti49 : TypeInfo := (Tryd.prog.info? 49).getD default
theorem info49 : Tryd.prog.info? 49 = some ti49 := by kernel_rfl
theorem size49 : ti49.size = 1 := by kernel_rfl
theorem bytes49 : ti49.bytes = 4 := by kernel_rfl
theorem zero49 : ti49.zero = some (Value.int IntKind.u32 0) := by kernel_rfl
noncomputable def ti51 : TypeInfo := (Tryd.prog.info? 51).getD default
theorem info51 : Tryd.prog.info? 51 = some ti51 := by kernel_rfl
theorem size51 : ti51.size = 2 := by kernel_rfl
theorem bytes51 : ti51.bytes = 16 := by kernel_rfl
theorem zero51 : ti51.zero = some (Value.agg #[Value.int IntKind.u64 0, Value.int IntKind.u32 0]) := by kernel_rfl
noncomputable def ti54 : TypeInfo := (Tryd.prog.info? 54).getD default
theorem info54 : Tryd.prog.info? 54 = some ti54 := by kernel_rfl
theorem size54 : ti54.size = 3 := by kernel_rfl
theorem bytes54 : ti54.bytes = 48 := by kernel_rfl
theorem zero54 : ti54.zero = some (Value.agg #[Value.int IntKind.i64 0, Value.slice none 0 0, Value.nilIface]) := by kernel_rfl
noncomputable def ti56 : TypeInfo := (Tryd.prog.info? 56).getD default
theorem info56 : Tryd.prog.info? 56 = some ti56 := by kernel_rfl
theorem size56 : ti56.size = 3 := by kernel_rfl
theorem bytes56 : ti56.bytes = 24 := by kernel_rfl
theorem zero56 : ti56.zero = some (Value.agg #[Value.int IntKind.i64 0, Value.int IntKind.i64 0, Value.int IntKind.i64 0]) := by kernel_rfl
noncomputable def ti60 : TypeInfo := (Tryd.prog.info? 60).getD default
theorem info60 : Tryd.prog.info? 60 = some ti60 := by kernel_rfl
theorem size60 : ti60.size = 1 := by kernel_rfl
theorem bytes60 : ti60.bytes = 24 := by kernel_rfl
theorem zero60 : ti60.zero = some (Value.slice none 0 0) := by kernel_rfl
noncomputable def ti61 : TypeInfo := (Tryd.prog.info? 61).getD default
theorem info61 : Tryd.prog.info? 61 = some ti61 := by kernel_rfl
theorem size61 : ti61.size = 1 := by kernel_rfl
theorem bytes61 : ti61.bytes = 24 := by kernel_rfl
theorem zero61 : ti61.zero = some (Value.slice none 0 0) := by kernel_rfl
noncomputable def ti63 : TypeInfo := (Tryd.prog.info? 63).getD default
theorem info63 : Tryd.prog.info? 63 = some ti63 := by kernel_rfl
theorem size63 : ti63.size = 1 := by kernel_rfl
theorem bytes63 : ti63.bytes = 8 := by kernel_rfl
theorem zero63 : ti63.zero = some (Value.pointer none) := by kernel_rfl
noncomputable def ti86 : TypeInfo := (Tryd.prog.info? 86).getD default
theorem info86 : Tryd.prog.info? 86 = some ti86 := by kernel_rfl
theorem size86 : ti86.size = 3 := by kernel_rfl
theorem bytes86 : ti86.bytes = 24 := by kernel_rfl
theorem zero86 : ti86.zero = some (Value.agg #[Value.pointer none, Value.pointer none, Value.int IntKind.u64 0]) := by kernel_rfl
theorem one3 : oneT Tryd.prog 3 = true := by kernel_rfl
theorem one22 : oneT Tryd.prog 22 = true := by kernel_rfl
theorem one23 : oneT Tryd.prog 23 = true := by kernel_rfl
theorem one25 : oneT Tryd.prog 25 = true := by kernel_rfl
theorem one27 : oneT Tryd.prog 27 = true := by kernel_rfl
theorem one31 : oneT Tryd.prog 31 = true := by kernel_rfl
theorem one33 : oneT Tryd.prog 33 = true := by kernel_rfl
theorem one40 : oneT Tryd.prog 40 = true := by kernel_rfl
theorem one41 : oneT Tryd.prog 41 = true := by kernel_rfl
theorem one46 : oneT Tryd.prog 46 = true := by kernel_rfl
theorem one49 : oneT Tryd.prog 49 = true := by kernel_rfl
theorem one60 : oneT Tryd.prog 60 = true := by kernel_rfl
theorem one61 : oneT Tryd.prog 61 = true := by kernel_rfl
theorem one63 : oneT Tryd.prog 63 = true := by kernel_rfl
theorem one67 : oneT Tryd.prog 67 = true := by kernel_rfl
theorem one96 : oneT Tryd.prog 96 = true := by kernel_rfl
theorem one20 : oneT Tryd.prog 20 = true := by kernel_rfl
theorem conc3 : concT Tryd.prog 3 = true := by kernel_rfl
theorem conc31 : concT Tryd.prog 31 = true := by kernel_rfl
theorem conc63 : concT Tryd.prog 63 = true := by kernel_rfl
theorem conc58 : concT Tryd.prog 58 = true := by kernel_rfl
theorem conc9 : concT Tryd.prog 9 = true := by kernel_rfl
theorem call4 (H : Hp) (args : Array Value) (K : Next → Hp → Prop) : SemS Tryd.prog (callFunc 4 args) H K = K (.enter 4 args) H := semS_callFunc Tryd.func4 (by kernel_rfl) (by kernel_rfl) args K
theorem call5 (H : Hp) (args : Array Value) (K : Next → Hp → Prop) : SemS Tryd.prog (callFunc 5 args) H K = K (.enter 5 args) H := semS_callFunc Tryd.func5 (by kernel_rfl) (by kernel_rfl) args K
theorem call6 (H : Hp) (args : Array Value) (K : Next → Hp → Prop) : SemS Tryd.prog (callFunc 6 args) H K = K (.enter 6 args) H := semS_callFunc Tryd.func6 (by kernel_rfl) (by kernel_rfl) args K
theorem call7 (H : Hp) (args : Array Value) (K : Next → Hp → Prop) : SemS Tryd.prog (callFunc 7 args) H K = K (.enter 7 args) H := semS_callFunc Tryd.func7 (by kernel_rfl) (by kernel_rfl) args K
theorem call8 (H : Hp) (args : Array Value) (K : Next → Hp → Prop) : SemS Tryd.prog (callFunc 8 args) H K = K (.enter 8 args) H := semS_callFunc Tryd.func8 (by kernel_rfl) (by kernel_rfl) args K
theorem call9 (H : Hp) (args : Array Value) (K : Next → Hp → Prop) : SemS Tryd.prog (callFunc 9 args) H K = K (.enter 9 args) H := semS_callFunc Tryd.func9 (by kernel_rfl) (by kernel_rfl) args K
theorem call11 (H : Hp) (args : Array Value) (K : Next → Hp → Prop) : SemS Tryd.prog (callFunc 11 args) H K = K (.enter 11 args) H := semS_callFunc Tryd.func11 (by kernel_rfl) (by kernel_rfl) args K
theorem call13 (H : Hp) (args : Array Value) (K : Next → Hp → Prop) : SemS Tryd.prog (callFunc 13 args) H K = K (.enter 13 args) H := semS_callFunc Tryd.func13 (by kernel_rfl) (by kernel_rfl) args K
theorem call14 (H : Hp) (args : Array Value) (K : Next → Hp → Prop) : SemS Tryd.prog (callFunc 14 args) H K = K (.enter 14 args) H := semS_callFunc Tryd.func14 (by kernel_rfl) (by kernel_rfl) args K
theorem call15 (H : Hp) (args : Array Value) (K : Next → Hp → Prop) : SemS Tryd.prog (callFunc 15 args) H K = K (.enter 15 args) H := semS_callFunc Tryd.func15 (by kernel_rfl) (by kernel_rfl) args K
theorem call16 (H : Hp) (args : Array Value) (K : Next → Hp → Prop) : SemS Tryd.prog (callFunc 16 args) H K = K (.enter 16 args) H := semS_callFunc Tryd.func16 (by kernel_rfl) (by kernel_rfl) args K
theorem call17 (H : Hp) (args : Array Value) (K : Next → Hp → Prop) : SemS Tryd.prog (callFunc 17 args) H K = K (.enter 17 args) H := semS_callFunc Tryd.func17 (by kernel_rfl) (by kernel_rfl) args K
theorem call18 (H : Hp) (args : Array Value) (K : Next → Hp → Prop) : SemS Tryd.prog (callFunc 18 args) H K = K (.enter 18 args) H := semS_callFunc Tryd.func18 (by kernel_rfl) (by kernel_rfl) args K
theorem call19 (H : Hp) (args : Array Value) (K : Next → Hp → Prop) : SemS Tryd.prog (callFunc 19 args) H K = K (.enter 19 args) H := semS_callFunc Tryd.func19 (by kernel_rfl) (by kernel_rfl) args K
theorem call20 (H : Hp) (args : Array Value) (K : Next → Hp → Prop) : SemS Tryd.prog (callFunc 20 args) H K = K (.enter 20 args) H := semS_callFunc Tryd.func20 (by kernel_rfl) (by kernel_rfl) args K
theorem call21 (H : Hp) (args : Array Value) (K : Next → Hp → Prop) : SemS Tryd.prog (callFunc 21 args) H K = K (.enter 21 args) H := semS_callFunc Tryd.func21 (by kernel_rfl) (by kernel_rfl) args K
theorem call22 (H : Hp) (args : Array Value) (K : Next → Hp → Prop) : SemS Tryd.prog (callFunc 22 args) H K = K (.enter 22 args) H := semS_callFunc Tryd.func22 (by kernel_rfl) (by kernel_rfl) args K
theorem call29 (H : Hp) (args : Array Value) (K : Next → Hp → Prop) : SemS Tryd.prog (callFunc 29 args) H K = K (.enter 29 args) H := semS_callFunc Tryd.func29 (by kernel_rfl) (by kernel_rfl) args K
theorem call30 (H : Hp) (args : Array Value) (K : Next → Hp → Prop) : SemS Tryd.prog (callFunc 30 args) H K = K (.enter 30 args) H := semS_callFunc Tryd.func30 (by kernel_rfl) (by kernel_rfl) args K
theorem call32 (H : Hp) (args : Array Value) (K : Next → Hp → Prop) : SemS Tryd.prog (callFunc 32 args) H K = K (.enter 32 args) H := semS_callFunc Tryd.func32 (by kernel_rfl) (by kernel_rfl) args K
theorem call33 (H : Hp) (args : Array Value) (K : Next → Hp → Prop) : SemS Tryd.prog (callFunc 33 args) H K = K (.enter 33 args) H := semS_callFunc Tryd.func33 (by kernel_rfl) (by kernel_rfl) args K
theorem call38 (H : Hp) (args : Array Value) (K : Next → Hp → Prop) : SemS Tryd.prog (callFunc 38 args) H K = K (.enter 38 args) H := semS_callFunc Tryd.func38 (by kernel_rfl) (by kernel_rfl) args K
theorem call44 (H : Hp) (args : Array Value) (K : Next → Hp → Prop) : SemS Tryd.prog (callFunc 44 args) H K = K (.enter 44 args) H := semS_callFunc Tryd.func44 (by kernel_rfl) (by kernel_rfl) args K
theorem call45 (H : Hp) (args : Array Value) (K : Next → Hp → Prop) : SemS Tryd.prog (callFunc 45 args) H K = K (.enter 45 args) H := semS_callFunc Tryd.func45 (by kernel_rfl) (by kernel_rfl) args K
theorem call46 (H : Hp) (args : Array Value) (K : Next → Hp → Prop) : SemS Tryd.prog (callFunc 46 args) H K = K (.enter 46 args) H := semS_callFunc Tryd.func46 (by kernel_rfl) (by kernel_rfl) args K
theorem call74 (H : Hp) (args : Array Value) (K : Next → Hp → Prop) : SemS Tryd.prog (callFunc 74 args) H K = K (.enter 74 args) H := semS_callFunc Tryd.func74 (by kernel_rfl) (by kernel_rfl) args K
theorem call75 (H : Hp) (args : Array Value) (K : Next → Hp → Prop) : SemS Tryd.prog (callFunc 75 args) H K = K (.enter 75 args) H := semS_callFunc Tryd.func75 (by kernel_rfl) (by kernel_rfl) args K
theorem call76 (H : Hp) (args : Array Value) (K : Next → Hp → Prop) : SemS Tryd.prog (callFunc 76 args) H K = K (.enter 76 args) H := semS_callFunc Tryd.func76 (by kernel_rfl) (by kernel_rfl) args K
theorem call77 (H : Hp) (args : Array Value) (K : Next → Hp → Prop) : SemS Tryd.prog (callFunc 77 args) H K = K (.enter 77 args) H := semS_callFunc Tryd.func77 (by kernel_rfl) (by kernel_rfl) args K
noncomputable def fs37 : Array Field := match Tryd.prog.underlying 37 with | some (.struct fs) => fs | _ => #[]
theorem str37 : Tryd.prog.underlying 37 = some (.struct fs37) := by kernel_rfl
noncomputable def fd37x0 : Field := (fs37[0]?).getD default
theorem fd37x0g : fs37[0]? = some fd37x0 := by kernel_rfl
theorem fd37x0t : fd37x0.type = 3 := by kernel_rfl
theorem fd37x0o : fd37x0.offset = 0 := by kernel_rfl
theorem field37x0 {H : Hp} (b off : Nat) (K : Value → Hp → Prop) : SemS Tryd.prog (Instr.fieldAt 37 (.pointer (some ⟨b, off, none⟩)) 0) H K = K (.pointer (some ⟨b, off + 0, none⟩)) H := by
  rw [semS_fieldAt str37 fd37x0g (ti := ti3) (by rw [fd37x0t]; exact info3) (by rw [size3]; decide), fd37x0o]
noncomputable def fd37x1 : Field := (fs37[1]?).getD default
theorem fd37x1g : fs37[1]? = some fd37x1 := by kernel_rfl
theorem fd37x1t : fd37x1.type = 3 := by kernel_rfl
theorem fd37x1o : fd37x1.offset = 1 := by kernel_rfl
theorem field37x1 {H : Hp} (b off : Nat) (K : Value → Hp → Prop) : SemS Tryd.prog (Instr.fieldAt 37 (.pointer (some ⟨b, off, none⟩)) 1) H K = K (.pointer (some ⟨b, off + 1, none⟩)) H := by
  rw [semS_fieldAt str37 fd37x1g (ti := ti3) (by rw [fd37x1t]; exact info3) (by rw [size3]; decide), fd37x1o]
noncomputable def fs54 : Array Field := match Tryd.prog.underlying 54 with | some (.struct fs) => fs | _ => #[]
theorem str54 : Tryd.prog.underlying 54 = some (.struct fs54) := by kernel_rfl
noncomputable def fd54x0 : Field := (fs54[0]?).getD default
theorem fd54x0g : fs54[0]? = some fd54x0 := by kernel_rfl
theorem fd54x0t : fd54x0.type = 3 := by kernel_rfl
theorem fd54x0o : fd54x0.offset = 0 := by kernel_rfl
theorem field54x0 {H : Hp} (b off : Nat) (K : Value → Hp → Prop) : SemS Tryd.prog (Instr.fieldAt 54 (.pointer (some ⟨b, off, none⟩)) 0) H K = K (.pointer (some ⟨b, off + 0, none⟩)) H := by
  rw [semS_fieldAt str54 fd54x0g (ti := ti3) (by rw [fd54x0t]; exact info3) (by rw [size3]; decide), fd54x0o]
noncomputable def fd54x1 : Field := (fs54[1]?).getD default
theorem fd54x1g : fs54[1]? = some fd54x1 := by kernel_rfl
theorem fd54x1t : fd54x1.type = 33 := by kernel_rfl
theorem fd54x1o : fd54x1.offset = 1 := by kernel_rfl
theorem field54x1 {H : Hp} (b off : Nat) (K : Value → Hp → Prop) : SemS Tryd.prog (Instr.fieldAt 54 (.pointer (some ⟨b, off, none⟩)) 1) H K = K (.pointer (some ⟨b, off + 1, none⟩)) H := by
  rw [semS_fieldAt str54 fd54x1g (ti := ti33) (by rw [fd54x1t]; exact info33) (by rw [size33]; decide), fd54x1o]
noncomputable def fd54x2 : Field := (fs54[2]?).getD default
theorem fd54x2g : fs54[2]? = some fd54x2 := by kernel_rfl
theorem fd54x2t : fd54x2.type = 27 := by kernel_rfl
theorem fd54x2o : fd54x2.offset = 2 := by kernel_rfl
theorem field54x2 {H : Hp} (b off : Nat) (K : Value → Hp → Prop) : SemS Tryd.prog (Instr.fieldAt 54 (.pointer (some ⟨b, off, none⟩)) 2) H K = K (.pointer (some ⟨b, off + 2, none⟩)) H := by
  rw [semS_fieldAt str54 fd54x2g (ti := ti27) (by rw [fd54x2t]; exact info27) (by rw [size27]; decide), fd54x2o]
noncomputable def fs56 : Array Field := match Tryd.prog.underlying 56 with | some (.struct fs) => fs | _ => #[]
theorem str56 : Tryd.prog.underlying 56 = some (.struct fs56) := by kernel_rfl
noncomputable def fd56x0 : Field := (fs56[0]?).getD default
theorem fd56x0g : fs56[0]? = some fd56x0 := by kernel_rfl
theorem fd56x0t : fd56x0.type = 3 := by kernel_rfl
theorem fd56x0o : fd56x0.offset = 0 := by kernel_rfl
theorem field56x0 {H : Hp} (b off : Nat) (K : Value → Hp → Prop) : SemS Tryd.prog (Instr.fieldAt 56 (.pointer (some ⟨b, off, none⟩)) 0) H K = K (.pointer (some ⟨b, off + 0, none⟩)) H := by
  rw [semS_fieldAt str56 fd56x0g (ti := ti3) (by rw [fd56x0t]; exact info3) (by rw [size3]; decide), fd56x0o]
noncomputable def fd56x1 : Field := (fs56[1]?).getD default
theorem fd56x1g : fs56[1]? = some fd56x1 := by kernel_rfl
theorem fd56x1t : fd56x1.type = 3 := by kernel_rfl
theorem fd56x1o : fd56x1.offset = 1 := by kernel_rfl
theorem field56x1 {H : Hp} (b off : Nat) (K : Value → Hp → Prop) : SemS Tryd.prog (Instr.fieldAt 56 (.pointer (some ⟨b, off, none⟩)) 1) H K = K (.pointer (some ⟨b, off + 1, none⟩)) H := by
  rw [semS_fieldAt str56 fd56x1g (ti := ti3) (by rw [fd56x1t]; exact info3) (by rw [size3]; decide), fd56x1o]
noncomputable def fd56x2 : Field := (fs56[2]?).getD default
theorem fd56x2g : fs56[2]? = some fd56x2 := by kernel_rfl
theorem fd56x2t : fd56x2.type = 3 := by kernel_rfl
theorem fd56x2o : fd56x2.offset = 2 := by kernel_rfl
theorem field56x2 {H : Hp} (b off : Nat) (K : Value → Hp → Prop) : SemS Tryd.prog (Instr.fieldAt 56 (.pointer (some ⟨b, off, none⟩)) 2) H K = K (.pointer (some ⟨b, off + 2, none⟩)) H := by
  rw [semS_fieldAt str56 fd56x2g (ti := ti3) (by rw [fd56x2t]; exact info3) (by rw [size3]; decide), fd56x2o]
noncomputable def fs51 : Array Field := match Tryd.prog.underlying 51 with | some (.struct fs) => fs | _ => #[]
theorem str51 : Tryd.prog.underlying 51 = some (.struct fs51) := by kernel_rfl
noncomputable def fd51x1 : Field := (fs51[1]?).getD default
theorem fd51x1g : fs51[1]? = some fd51x1 := by kernel_rfl
theorem fd51x1t : fd51x1.type = 48 := by kernel_rfl
theorem fd51x1o : fd51x1.offset = 0 := by kernel_rfl
theorem field51x1 {H : Hp} (b off : Nat) (K : Value → Hp → Prop) : SemS Tryd.prog (Instr.fieldAt 51 (.pointer (some ⟨b, off, none⟩)) 1) H K = K (.pointer (some ⟨b, off + 0, none⟩)) H := by
  rw [semS_fieldAt str51 fd51x1g (ti := ti48) (by rw [fd51x1t]; exact info48) (by rw [size48]; decide), fd51x1o]
noncomputable def fd51x2 : Field := (fs51[2]?).getD default
theorem fd51x2g : fs51[2]? = some fd51x2 := by kernel_rfl
theorem fd51x2t : fd51x2.type = 49 := by kernel_rfl
theorem fd51x2o : fd51x2.offset = 1 := by kernel_rfl
theorem field51x2 {H : Hp} (b off : Nat) (K : Value → Hp → Prop) : SemS Tryd.prog (Instr.fieldAt 51 (.pointer (some ⟨b, off, none⟩)) 2) H K = K (.pointer (some ⟨b, off + 1, none⟩)) H := by
  rw [semS_fieldAt str51 fd51x2g (ti := ti49) (by rw [fd51x2t]; exact info49) (by rw [size49]; decide), fd51x2o]
noncomputable def fs48 : Array Field := match Tryd.prog.underlying 48 with | some (.struct fs) => fs | _ => #[]
theorem str48 : Tryd.prog.underlying 48 = some (.struct fs48) := by kernel_rfl
noncomputable def fd48x2 : Field := (fs48[2]?).getD default
theorem fd48x2g : fs48[2]? = some fd48x2 := by kernel_rfl
theorem fd48x2t : fd48x2.type = 46 := by kernel_rfl
theorem fd48x2o : fd48x2.offset = 0 := by kernel_rfl
theorem field48x2 {H : Hp} (b off : Nat) (K : Value → Hp → Prop) : SemS Tryd.prog (Instr.fieldAt 48 (.pointer (some ⟨b, off, none⟩)) 2) H K = K (.pointer (some ⟨b, off + 0, none⟩)) H := by
  rw [semS_fieldAt str48 fd48x2g (ti := ti46) (by rw [fd48x2t]; exact info46) (by rw [size46]; decide), fd48x2o]
end Go.Proofs.YtcomjkbfmklfnaaDoor
