/- The table of compact functions is the program's. (made by program) -/
import Derived.Test.YthdkiocnbbeigaaTab
import Derived.Test.YthdkiocnbbeigaaProg
import Derived.Test.YthdkiocnbbeigaaAmTab
namespace Go.AMJ
open Go Go.AM Go.Proofs

theorem no {P : Program} {k : Nat} : ∀ x : AFunc, (none : Option AFunc) = some x → FOk P k x := fun _ h => nomatch h
theorem one {P : Program} {k : Nat} {a : AFunc} (h : FOk P k a) : ∀ x : AFunc, some a = some x → FOk P k x := fun x e => by cases e; exact h

theorem ok3 : FOk Try.prog 3 af3 := ⟨Try.f3, Try.func3, by kernel_rfl, by kernel_rfl⟩
theorem ok4 : FOk Try.prog 4 af4 := ⟨Try.f4, Try.func4, by kernel_rfl, by kernel_rfl⟩
theorem ok5 : FOk Try.prog 5 af5 := ⟨Try.f5, Try.func5, by kernel_rfl, by kernel_rfl⟩
theorem ok6 : FOk Try.prog 6 af6 := ⟨Try.f6, Try.func6, by kernel_rfl, by kernel_rfl⟩
theorem ok7 : FOk Try.prog 7 af7 := ⟨Try.f7, Try.func7, by kernel_rfl, by kernel_rfl⟩
theorem ok8 : FOk Try.prog 8 af8 := ⟨Try.f8, Try.func8, by kernel_rfl, by kernel_rfl⟩
theorem ok9 : FOk Try.prog 9 af9 := ⟨Try.f9, Try.func9, by kernel_rfl, by kernel_rfl⟩
theorem ok10 : FOk Try.prog 10 af10 := ⟨Try.f10, Try.func10, by kernel_rfl, by kernel_rfl⟩
theorem ok11 : FOk Try.prog 11 af11 := ⟨Try.f11, Try.func11, by kernel_rfl, by kernel_rfl⟩
theorem ok12 : FOk Try.prog 12 af12 := ⟨Try.f12, Try.func12, by kernel_rfl, by kernel_rfl⟩
theorem ok13 : FOk Try.prog 13 af13 := ⟨Try.f13, Try.func13, by kernel_rfl, by kernel_rfl⟩
theorem ok14 : FOk Try.prog 14 af14 := ⟨Try.f14, Try.func14, by kernel_rfl, by kernel_rfl⟩
theorem ok15 : FOk Try.prog 15 af15 := ⟨Try.f15, Try.func15, by kernel_rfl, by kernel_rfl⟩
theorem ok16 : FOk Try.prog 16 af16 := ⟨Try.f16, Try.func16, by kernel_rfl, by kernel_rfl⟩
theorem ok17 : FOk Try.prog 17 af17 := ⟨Try.f17, Try.func17, by kernel_rfl, by kernel_rfl⟩
theorem ok19 : FOk Try.prog 19 af19 := ⟨Try.f19, Try.func19, by kernel_rfl, by kernel_rfl⟩
theorem ok20 : FOk Try.prog 20 af20 := ⟨Try.f20, Try.func20, by kernel_rfl, by kernel_rfl⟩
theorem ok21 : FOk Try.prog 21 af21 := ⟨Try.f21, Try.func21, by kernel_rfl, by kernel_rfl⟩
theorem ok22 : FOk Try.prog 22 af22 := ⟨Try.f22, Try.func22, by kernel_rfl, by kernel_rfl⟩
theorem ok23 : FOk Try.prog 23 af23 := ⟨Try.f23, Try.func23, by kernel_rfl, by kernel_rfl⟩
theorem ok24 : FOk Try.prog 24 af24 := ⟨Try.f24, Try.func24, by kernel_rfl, by kernel_rfl⟩
theorem ok25 : FOk Try.prog 25 af25 := ⟨Try.f25, Try.func25, by kernel_rfl, by kernel_rfl⟩
theorem ok26 : FOk Try.prog 26 af26 := ⟨Try.f26, Try.func26, by kernel_rfl, by kernel_rfl⟩
theorem ok27 : FOk Try.prog 27 af27 := ⟨Try.f27, Try.func27, by kernel_rfl, by kernel_rfl⟩
theorem ok28 : FOk Try.prog 28 af28 := ⟨Try.f28, Try.func28, by kernel_rfl, by kernel_rfl⟩
theorem ok29 : FOk Try.prog 29 af29 := ⟨Try.f29, Try.func29, by kernel_rfl, by kernel_rfl⟩
theorem ok30 : FOk Try.prog 30 af30 := ⟨Try.f30, Try.func30, by kernel_rfl, by kernel_rfl⟩
theorem ok31 : FOk Try.prog 31 af31 := ⟨Try.f31, Try.func31, by kernel_rfl, by kernel_rfl⟩
theorem ok32 : FOk Try.prog 32 af32 := ⟨Try.f32, Try.func32, by kernel_rfl, by kernel_rfl⟩
theorem ok33 : FOk Try.prog 33 af33 := ⟨Try.f33, Try.func33, by kernel_rfl, by kernel_rfl⟩
theorem ok34 : FOk Try.prog 34 af34 := ⟨Try.f34, Try.func34, by kernel_rfl, by kernel_rfl⟩
theorem ok35 : FOk Try.prog 35 af35 := ⟨Try.f35, Try.func35, by kernel_rfl, by kernel_rfl⟩
theorem ok36 : FOk Try.prog 36 af36 := ⟨Try.f36, Try.func36, by kernel_rfl, by kernel_rfl⟩
theorem ok38 : FOk Try.prog 38 af38 := ⟨Try.f38, Try.func38, by kernel_rfl, by kernel_rfl⟩
theorem ok39 : FOk Try.prog 39 af39 := ⟨Try.f39, Try.func39, by kernel_rfl, by kernel_rfl⟩
theorem ok40 : FOk Try.prog 40 af40 := ⟨Try.f40, Try.func40, by kernel_rfl, by kernel_rfl⟩
theorem ok41 : FOk Try.prog 41 af41 := ⟨Try.f41, Try.func41, by kernel_rfl, by kernel_rfl⟩
theorem ok42 : FOk Try.prog 42 af42 := ⟨Try.f42, Try.func42, by kernel_rfl, by kernel_rfl⟩
theorem ok43 : FOk Try.prog 43 af43 := ⟨Try.f43, Try.func43, by kernel_rfl, by kernel_rfl⟩
theorem ok44 : FOk Try.prog 44 af44 := ⟨Try.f44, Try.func44, by kernel_rfl, by kernel_rfl⟩
theorem ok45 : FOk Try.prog 45 af45 := ⟨Try.f45, Try.func45, by kernel_rfl, by kernel_rfl⟩
theorem ok46 : FOk Try.prog 46 af46 := ⟨Try.f46, Try.func46, by kernel_rfl, by kernel_rfl⟩
theorem ok48 : FOk Try.prog 48 af48 := ⟨Try.f48, Try.func48, by kernel_rfl, by kernel_rfl⟩
theorem ok49 : FOk Try.prog 49 af49 := ⟨Try.f49, Try.func49, by kernel_rfl, by kernel_rfl⟩
theorem ok52 : FOk Try.prog 52 af52 := ⟨Try.f52, Try.func52, by kernel_rfl, by kernel_rfl⟩
theorem ok54 : FOk Try.prog 54 af54 := ⟨Try.f54, Try.func54, by kernel_rfl, by kernel_rfl⟩
theorem ok55 : FOk Try.prog 55 af55 := ⟨Try.f55, Try.func55, by kernel_rfl, by kernel_rfl⟩
theorem ok56 : FOk Try.prog 56 af56 := ⟨Try.f56, Try.func56, by kernel_rfl, by kernel_rfl⟩
theorem ok57 : FOk Try.prog 57 af57 := ⟨Try.f57, Try.func57, by kernel_rfl, by kernel_rfl⟩
theorem ok58 : FOk Try.prog 58 af58 := ⟨Try.f58, Try.func58, by kernel_rfl, by kernel_rfl⟩
theorem ok60 : FOk Try.prog 60 af60 := ⟨Try.f60, Try.func60, by kernel_rfl, by kernel_rfl⟩
theorem ok63 : FOk Try.prog 63 af63 := ⟨Try.f63, Try.func63, by kernel_rfl, by kernel_rfl⟩
theorem ok71 : FOk Try.prog 71 af71 := ⟨Try.f71, Try.func71, by kernel_rfl, by kernel_rfl⟩
theorem ok72 : FOk Try.prog 72 af72 := ⟨Try.f72, Try.func72, by kernel_rfl, by kernel_rfl⟩
theorem ok73 : FOk Try.prog 73 af73 := ⟨Try.f73, Try.func73, by kernel_rfl, by kernel_rfl⟩

theorem tabOk : FtOk Try.prog tab.get := ftOk_of_tab (t := tab) (⟨no, ⟨no, ⟨one ok3, ⟨one ok7, ⟨one ok15, ⟨one ok31, ⟨one ok63, trivial, trivial⟩, trivial⟩, trivial⟩, ⟨one ok23, ⟨one ok39, ⟨one ok71, trivial, trivial⟩, trivial⟩, ⟨one ok55, trivial, trivial⟩⟩⟩, ⟨one ok11, ⟨one ok19, ⟨one ok35, trivial, trivial⟩, trivial⟩, ⟨one ok27, ⟨one ok43, trivial, trivial⟩, trivial⟩⟩⟩, ⟨one ok5, ⟨one ok9, ⟨one ok17, ⟨one ok33, trivial, trivial⟩, ⟨one ok49, trivial, trivial⟩⟩, ⟨one ok25, ⟨one ok41, ⟨one ok73, trivial, trivial⟩, trivial⟩, ⟨one ok57, trivial, trivial⟩⟩⟩, ⟨one ok13, ⟨one ok21, trivial, trivial⟩, ⟨one ok29, ⟨one ok45, trivial, trivial⟩, trivial⟩⟩⟩⟩, ⟨no, ⟨one ok4, ⟨one ok8, ⟨one ok16, ⟨one ok32, trivial, trivial⟩, ⟨one ok48, trivial, trivial⟩⟩, ⟨one ok24, ⟨one ok40, ⟨one ok72, trivial, trivial⟩, trivial⟩, ⟨one ok56, trivial, trivial⟩⟩⟩, ⟨one ok12, ⟨one ok20, ⟨one ok36, trivial, trivial⟩, ⟨one ok52, trivial, trivial⟩⟩, ⟨one ok28, ⟨one ok44, trivial, trivial⟩, ⟨one ok60, trivial, trivial⟩⟩⟩⟩, ⟨one ok6, ⟨one ok10, ⟨no, ⟨one ok34, trivial, trivial⟩, trivial⟩, ⟨one ok26, ⟨one ok42, trivial, trivial⟩, ⟨one ok58, trivial, trivial⟩⟩⟩, ⟨one ok14, ⟨one ok22, ⟨one ok38, trivial, trivial⟩, ⟨one ok54, trivial, trivial⟩⟩, ⟨one ok30, ⟨one ok46, trivial, trivial⟩, trivial⟩⟩⟩⟩⟩)

end Go.AMJ
