/- What these functions give, and that the law FnExactReadImage gives true. -/
import Derived.Test.YtdhmlhlpdejefaaCFnExactReadImage
namespace Go.Proofs.Ytdhmlhlpdejefaa.AI
open Go.Proofs
set_option linter.all false
set_option maxRecDepth 100000
structure DNode where
  Kind : Int
  Num : Int
  Name : ByteArray
  More : ByteArray
  To : ByteArray
  Kids : List (Int)
abbrev cNode (x : DNode) : List AV := [.int .i64 x.Kind, .int .i64 x.Num, .str x.Name, .str x.More, .str x.To, .tree 1 (x.Kids.map cI)]
def wtNode (x : DNode) : Nat := x.Name.size + x.More.size + x.To.size + x.Kids.length
def gdNode (x : DNode) : Prop := i64 x.Kind ∧ i64 x.Num ∧ gdS x.Name ∧ gdS x.More ∧ gdS x.To ∧ (x.Kids.length ≤ 140737488351232 ∧ ∀ y ∈ x.Kids, i64 y)
def mkNode (x : DNode) (k : Int) : DNode := { Kind := k, Num := (k + 1), Name := (mT ((k + 1) + 1)), More := (mT (((k + 1) + 1) + 1)), To := (mT ((((k + 1) + 1) + 1) + 1)), Kids := mkL mkI ct1 x.Kids (((((k + 1) + 1) + 1) + 1) + 1) }
def ctNode (x : DNode) : Nat := 1 + 1 + 1 + 1 + 1 + tot ct1 x.Kids
theorem ctle_Node (x : DNode) : ctNode x ≤ 5 * (1 + wtNode x) := by
  have h0 := tot_ct1 x.Kids
  unfold ctNode
  simp only [wtNode] at *
  omega
theorem tctle_Node (xs : List DNode) : tot ctNode xs ≤ 5 * (xs.length + tot wtNode xs) := tot_ct_le ctle_Node xs
def mwNode (x : DNode) (k : Int) : DNode := { Kind := x.Kind, Num := x.Num, Name := x.Name, More := x.More, To := x.To, Kids := mkL mkI ct1 x.Kids k }
def cwNode (x : DNode) : Nat := tot ct1 x.Kids
theorem set_cNode {xs : List DNode} {n : Nat} {x : DNode} : (xs.map cNode).set n [.int .i64 x.Kind, .int .i64 x.Num, .str x.Name, .str x.More, .str x.To, .tree 1 (x.Kids.map cI)] = (xs.set n x).map cNode := by rw [List.map_set]
theorem snoc_cNode {xs : List DNode} {x : DNode} : xs.map cNode ++ [[.int .i64 x.Kind, .int .i64 x.Num, .str x.Name, .str x.More, .str x.To, .tree 1 (x.Kids.map cI)]] = (xs ++ [x]).map cNode := by simp
theorem solid_cNode {xs : List DNode} : solid (xs.map cNode) = true := solid_map fun _ => rfl
structure DEntry where
  Name : ByteArray
  Param : ByteArray
  Body : Int
abbrev cEntry (x : DEntry) : List AV := [.str x.Name, .str x.Param, .int .i64 x.Body]
def wtEntry (x : DEntry) : Nat := x.Name.size + x.Param.size
def gdEntry (x : DEntry) : Prop := gdS x.Name ∧ gdS x.Param ∧ i64 x.Body
def mkEntry (x : DEntry) (k : Int) : DEntry := { Name := (mT k), Param := (mT (k + 1)), Body := ((k + 1) + 1) }
def ctEntry (x : DEntry) : Nat := 1 + 1 + 1
theorem ctle_Entry (x : DEntry) : ctEntry x ≤ 3 * (1 + wtEntry x) := by
  unfold ctEntry
  simp only [wtEntry] at *
  omega
theorem tctle_Entry (xs : List DEntry) : tot ctEntry xs ≤ 3 * (xs.length + tot wtEntry xs) := tot_ct_le ctle_Entry xs
theorem flat_cEntry {xs : List DEntry} : flat (xs.map cEntry) = true := flat_map fun _ => rfl
theorem set_cEntry {xs : List DEntry} {n : Nat} {x : DEntry} : (xs.map cEntry).set n [.str x.Name, .str x.Param, .int .i64 x.Body] = (xs.set n x).map cEntry := by rw [List.map_set]
theorem snoc_cEntry {xs : List DEntry} {x : DEntry} : xs.map cEntry ++ [[.str x.Name, .str x.Param, .int .i64 x.Body]] = (xs ++ [x]).map cEntry := by simp
theorem solid_cEntry {xs : List DEntry} : solid (xs.map cEntry) = true := solid_map fun _ => rfl
structure DMonitor where
  Name : ByteArray
  Vars : List (ByteArray)
  Queues : List (ByteArray)
  Entries : List (DEntry)
abbrev cMonitor (x : DMonitor) : List AV := [.str x.Name, .tree 1 (x.Vars.map cS), .tree 1 (x.Queues.map cS), .tree 3 (x.Entries.map cEntry)]
def wtMonitor (x : DMonitor) : Nat := x.Name.size + (x.Vars.length + tot wtS x.Vars) + (x.Queues.length + tot wtS x.Queues) + (x.Entries.length + tot wtEntry x.Entries)
def gdMonitor (x : DMonitor) : Prop := gdS x.Name ∧ (x.Vars.length ≤ 140737488351232 ∧ ∀ y ∈ x.Vars, gdS y) ∧ (x.Queues.length ≤ 140737488351232 ∧ ∀ y ∈ x.Queues, gdS y) ∧ (x.Entries.length ≤ 140737488351232 ∧ ∀ y ∈ x.Entries, gdEntry y)
def mkMonitor (x : DMonitor) (k : Int) : DMonitor := { Name := (mT k), Vars := mkL mkS ct1 x.Vars (k + 1), Queues := mkL mkS ct1 x.Queues ((k + 1) + (tot ct1 x.Vars : Nat)), Entries := mkL mkEntry ctEntry x.Entries (((k + 1) + (tot ct1 x.Vars : Nat)) + (tot ct1 x.Queues : Nat)) }
def ctMonitor (x : DMonitor) : Nat := 1 + tot ct1 x.Vars + tot ct1 x.Queues + tot ctEntry x.Entries
theorem ctle_Monitor (x : DMonitor) : ctMonitor x ≤ 3 * (1 + wtMonitor x) := by
  have h0 := tot_ct1 x.Vars
  have h1 := tot_ct1 x.Queues
  have h2 := tctle_Entry x.Entries
  unfold ctMonitor
  simp only [wtMonitor] at *
  omega
theorem tctle_Monitor (xs : List DMonitor) : tot ctMonitor xs ≤ 3 * (xs.length + tot wtMonitor xs) := tot_ct_le ctle_Monitor xs
def mwMonitor (x : DMonitor) (k : Int) : DMonitor := { Name := x.Name, Vars := mkL mkS ct1 x.Vars k, Queues := mkL mkS ct1 x.Queues (k + (tot ct1 x.Vars : Nat)), Entries := mkL mkEntry ctEntry x.Entries ((k + (tot ct1 x.Vars : Nat)) + (tot ct1 x.Queues : Nat)) }
def cwMonitor (x : DMonitor) : Nat := tot ct1 x.Vars + tot ct1 x.Queues + tot ctEntry x.Entries
theorem set_cMonitor {xs : List DMonitor} {n : Nat} {x : DMonitor} : (xs.map cMonitor).set n [.str x.Name, .tree 1 (x.Vars.map cS), .tree 1 (x.Queues.map cS), .tree 3 (x.Entries.map cEntry)] = (xs.set n x).map cMonitor := by rw [List.map_set]
theorem snoc_cMonitor {xs : List DMonitor} {x : DMonitor} : xs.map cMonitor ++ [[.str x.Name, .tree 1 (x.Vars.map cS), .tree 1 (x.Queues.map cS), .tree 3 (x.Entries.map cEntry)]] = (xs ++ [x]).map cMonitor := by simp
theorem solid_cMonitor {xs : List DMonitor} : solid (xs.map cMonitor) = true := solid_map fun _ => rfl
structure DProcess where
  Name : ByteArray
  Uses : List (ByteArray)
  Vars : List (ByteArray)
  Body : Int
abbrev cProcess (x : DProcess) : List AV := [.str x.Name, .tree 1 (x.Uses.map cS), .tree 1 (x.Vars.map cS), .int .i64 x.Body]
def wtProcess (x : DProcess) : Nat := x.Name.size + (x.Uses.length + tot wtS x.Uses) + (x.Vars.length + tot wtS x.Vars)
def gdProcess (x : DProcess) : Prop := gdS x.Name ∧ (x.Uses.length ≤ 140737488351232 ∧ ∀ y ∈ x.Uses, gdS y) ∧ (x.Vars.length ≤ 140737488351232 ∧ ∀ y ∈ x.Vars, gdS y) ∧ i64 x.Body
def mkProcess (x : DProcess) (k : Int) : DProcess := { Name := (mT k), Uses := mkL mkS ct1 x.Uses (k + 1), Vars := mkL mkS ct1 x.Vars ((k + 1) + (tot ct1 x.Uses : Nat)), Body := (((k + 1) + (tot ct1 x.Uses : Nat)) + (tot ct1 x.Vars : Nat)) }
def ctProcess (x : DProcess) : Nat := 1 + tot ct1 x.Uses + tot ct1 x.Vars + 1
theorem ctle_Process (x : DProcess) : ctProcess x ≤ 2 * (1 + wtProcess x) := by
  have h0 := tot_ct1 x.Uses
  have h1 := tot_ct1 x.Vars
  unfold ctProcess
  simp only [wtProcess] at *
  omega
theorem tctle_Process (xs : List DProcess) : tot ctProcess xs ≤ 2 * (xs.length + tot wtProcess xs) := tot_ct_le ctle_Process xs
def mwProcess (x : DProcess) (k : Int) : DProcess := { Name := x.Name, Uses := mkL mkS ct1 x.Uses k, Vars := mkL mkS ct1 x.Vars (k + (tot ct1 x.Uses : Nat)), Body := x.Body }
def cwProcess (x : DProcess) : Nat := tot ct1 x.Uses + tot ct1 x.Vars
theorem set_cProcess {xs : List DProcess} {n : Nat} {x : DProcess} : (xs.map cProcess).set n [.str x.Name, .tree 1 (x.Uses.map cS), .tree 1 (x.Vars.map cS), .int .i64 x.Body] = (xs.set n x).map cProcess := by rw [List.map_set]
theorem snoc_cProcess {xs : List DProcess} {x : DProcess} : xs.map cProcess ++ [[.str x.Name, .tree 1 (x.Uses.map cS), .tree 1 (x.Vars.map cS), .int .i64 x.Body]] = (xs ++ [x]).map cProcess := by simp
theorem solid_cProcess {xs : List DProcess} : solid (xs.map cProcess) = true := solid_map fun _ => rfl
structure DProgram where
  Nodes : List (DNode)
  Monitors : List (DMonitor)
  Processes : List (DProcess)
abbrev cProgram (x : DProgram) : List AV := [.tree 6 (x.Nodes.map cNode), .tree 4 (x.Monitors.map cMonitor), .tree 4 (x.Processes.map cProcess)]
def wtProgram (x : DProgram) : Nat := (x.Nodes.length + tot wtNode x.Nodes) + (x.Monitors.length + tot wtMonitor x.Monitors) + (x.Processes.length + tot wtProcess x.Processes)
def gdProgram (x : DProgram) : Prop := (x.Nodes.length ≤ 140737488351232 ∧ ∀ y ∈ x.Nodes, gdNode y) ∧ (x.Monitors.length ≤ 140737488351232 ∧ ∀ y ∈ x.Monitors, gdMonitor y) ∧ (x.Processes.length ≤ 140737488351232 ∧ ∀ y ∈ x.Processes, gdProcess y)
def mkProgram (x : DProgram) (k : Int) : DProgram := { Nodes := mkL mkNode ctNode x.Nodes k, Monitors := mkL mkMonitor ctMonitor x.Monitors (k + (tot ctNode x.Nodes : Nat)), Processes := mkL mkProcess ctProcess x.Processes ((k + (tot ctNode x.Nodes : Nat)) + (tot ctMonitor x.Monitors : Nat)) }
def ctProgram (x : DProgram) : Nat := tot ctNode x.Nodes + tot ctMonitor x.Monitors + tot ctProcess x.Processes
theorem ctle_Program (x : DProgram) : ctProgram x ≤ 5 * (1 + wtProgram x) := by
  have h0 := tctle_Node x.Nodes
  have h1 := tctle_Monitor x.Monitors
  have h2 := tctle_Process x.Processes
  unfold ctProgram
  simp only [wtProgram] at *
  omega
theorem tctle_Program (xs : List DProgram) : tot ctProgram xs ≤ 5 * (xs.length + tot wtProgram xs) := tot_ct_le ctle_Program xs
def mwProgram (x : DProgram) (k : Int) : DProgram := { Nodes := mkL mkNode ctNode x.Nodes k, Monitors := mkL mkMonitor ctMonitor x.Monitors (k + (tot ctNode x.Nodes : Nat)), Processes := mkL mkProcess ctProcess x.Processes ((k + (tot ctNode x.Nodes : Nat)) + (tot ctMonitor x.Monitors : Nat)) }
def cwProgram (x : DProgram) : Nat := tot ctNode x.Nodes + tot ctMonitor x.Monitors + tot ctProcess x.Processes
theorem set_cProgram {xs : List DProgram} {n : Nat} {x : DProgram} : (xs.map cProgram).set n [.tree 6 (x.Nodes.map cNode), .tree 4 (x.Monitors.map cMonitor), .tree 4 (x.Processes.map cProcess)] = (xs.set n x).map cProgram := by rw [List.map_set]
theorem snoc_cProgram {xs : List DProgram} {x : DProgram} : xs.map cProgram ++ [[.tree 6 (x.Nodes.map cNode), .tree 4 (x.Monitors.map cMonitor), .tree 4 (x.Processes.map cProcess)]] = (xs ++ [x]).map cProgram := by simp
theorem solid_cProgram {xs : List DProgram} : solid (xs.map cProgram) = true := solid_map fun _ => rfl
structure DGate where
  Owner : Int
  Waits : List (Int)
  Queues : List (Int)
abbrev cGate (x : DGate) : List AV := [.int .i64 x.Owner, .tree 1 (x.Waits.map cI), .tree 1 (x.Queues.map cI)]
def wtGate (x : DGate) : Nat := x.Waits.length + x.Queues.length
def gdGate (x : DGate) : Prop := i64 x.Owner ∧ (x.Waits.length ≤ 140737488351232 ∧ ∀ y ∈ x.Waits, i64 y) ∧ (x.Queues.length ≤ 140737488351232 ∧ ∀ y ∈ x.Queues, i64 y)
def mkGate (x : DGate) (k : Int) : DGate := { Owner := k, Waits := mkL mkI ct1 x.Waits (k + 1), Queues := mkL mkI ct1 x.Queues ((k + 1) + (tot ct1 x.Waits : Nat)) }
def ctGate (x : DGate) : Nat := 1 + tot ct1 x.Waits + tot ct1 x.Queues
theorem ctle_Gate (x : DGate) : ctGate x ≤ 1 * (1 + wtGate x) := by
  have h0 := tot_ct1 x.Waits
  have h1 := tot_ct1 x.Queues
  unfold ctGate
  simp only [wtGate] at *
  omega
theorem tctle_Gate (xs : List DGate) : tot ctGate xs ≤ 1 * (xs.length + tot wtGate xs) := tot_ct_le ctle_Gate xs
def mwGate (x : DGate) (k : Int) : DGate := { Owner := x.Owner, Waits := mkL mkI ct1 x.Waits k, Queues := mkL mkI ct1 x.Queues (k + (tot ct1 x.Waits : Nat)) }
def cwGate (x : DGate) : Nat := tot ct1 x.Waits + tot ct1 x.Queues
theorem set_cGate {xs : List DGate} {n : Nat} {x : DGate} : (xs.map cGate).set n [.int .i64 x.Owner, .tree 1 (x.Waits.map cI), .tree 1 (x.Queues.map cI)] = (xs.set n x).map cGate := by rw [List.map_set]
theorem snoc_cGate {xs : List DGate} {x : DGate} : xs.map cGate ++ [[.int .i64 x.Owner, .tree 1 (x.Waits.map cI), .tree 1 (x.Queues.map cI)]] = (xs ++ [x]).map cGate := by simp
theorem solid_cGate {xs : List DGate} : solid (xs.map cGate) = true := solid_map fun _ => rfl
structure DIns where
  Op : Int
  A : Int
  B : Int
  C : Int
abbrev cIns (x : DIns) : List AV := [.int .i64 x.Op, .int .i64 x.A, .int .i64 x.B, .int .i64 x.C]
def gdIns (x : DIns) : Prop := i64 x.Op ∧ i64 x.A ∧ i64 x.B ∧ i64 x.C
def mkIns (x : DIns) (k : Int) : DIns := { Op := k, A := (k + 1), B := ((k + 1) + 1), C := (((k + 1) + 1) + 1) }
def ctIns (x : DIns) : Nat := 1 + 1 + 1 + 1
theorem ctle_Ins (x : DIns) : ctIns x ≤ 4 := by
  unfold ctIns
  omega
theorem tctle_Ins (xs : List DIns) : tot ctIns xs ≤ 4 * xs.length := tot_ct_le0 ctle_Ins xs
theorem flat_cIns {xs : List DIns} : flat (xs.map cIns) = true := flat_map fun _ => rfl
theorem set_cIns {xs : List DIns} {n : Nat} {x : DIns} : (xs.map cIns).set n [.int .i64 x.Op, .int .i64 x.A, .int .i64 x.B, .int .i64 x.C] = (xs.set n x).map cIns := by rw [List.map_set]
theorem snoc_cIns {xs : List DIns} {x : DIns} : xs.map cIns ++ [[.int .i64 x.Op, .int .i64 x.A, .int .i64 x.B, .int .i64 x.C]] = (xs ++ [x]).map cIns := by simp
theorem solid_cIns {xs : List DIns} : solid (xs.map cIns) = true := solid_map fun _ => rfl
structure DCore where
  Regs : List (Int)
  Pc : Int
  Process : Int
abbrev cCore (x : DCore) : List AV := [.tree 1 (x.Regs.map cI), .int .i64 x.Pc, .int .i64 x.Process]
def wtCore (x : DCore) : Nat := x.Regs.length
def gdCore (x : DCore) : Prop := (x.Regs.length ≤ 140737488351232 ∧ ∀ y ∈ x.Regs, i64 y) ∧ i64 x.Pc ∧ i64 x.Process
def mkCore (x : DCore) (k : Int) : DCore := { Regs := mkL mkI ct1 x.Regs k, Pc := (k + (tot ct1 x.Regs : Nat)), Process := ((k + (tot ct1 x.Regs : Nat)) + 1) }
def ctCore (x : DCore) : Nat := tot ct1 x.Regs + 1 + 1
theorem ctle_Core (x : DCore) : ctCore x ≤ 2 * (1 + wtCore x) := by
  have h0 := tot_ct1 x.Regs
  unfold ctCore
  simp only [wtCore] at *
  omega
theorem tctle_Core (xs : List DCore) : tot ctCore xs ≤ 2 * (xs.length + tot wtCore xs) := tot_ct_le ctle_Core xs
def mwCore (x : DCore) (k : Int) : DCore := { Regs := mkL mkI ct1 x.Regs k, Pc := x.Pc, Process := x.Process }
def cwCore (x : DCore) : Nat := tot ct1 x.Regs
theorem set_cCore {xs : List DCore} {n : Nat} {x : DCore} : (xs.map cCore).set n [.tree 1 (x.Regs.map cI), .int .i64 x.Pc, .int .i64 x.Process] = (xs.set n x).map cCore := by rw [List.map_set]
theorem snoc_cCore {xs : List DCore} {x : DCore} : xs.map cCore ++ [[.tree 1 (x.Regs.map cI), .int .i64 x.Pc, .int .i64 x.Process]] = (xs ++ [x]).map cCore := by simp
theorem solid_cCore {xs : List DCore} : solid (xs.map cCore) = true := solid_map fun _ => rfl
structure DPlaces where
  Names : List (ByteArray)
  Ats : List (Int)
abbrev cPlaces (x : DPlaces) : List AV := [.tree 1 (x.Names.map cS), .tree 1 (x.Ats.map cI)]
def wtPlaces (x : DPlaces) : Nat := (x.Names.length + tot wtS x.Names) + x.Ats.length
def gdPlaces (x : DPlaces) : Prop := (x.Names.length ≤ 140737488351232 ∧ ∀ y ∈ x.Names, gdS y) ∧ (x.Ats.length ≤ 140737488351232 ∧ ∀ y ∈ x.Ats, i64 y)
def mkPlaces (x : DPlaces) (k : Int) : DPlaces := { Names := mkL mkS ct1 x.Names k, Ats := mkL mkI ct1 x.Ats (k + (tot ct1 x.Names : Nat)) }
def ctPlaces (x : DPlaces) : Nat := tot ct1 x.Names + tot ct1 x.Ats
theorem ctle_Places (x : DPlaces) : ctPlaces x ≤ 1 * (1 + wtPlaces x) := by
  have h0 := tot_ct1 x.Names
  have h1 := tot_ct1 x.Ats
  unfold ctPlaces
  simp only [wtPlaces] at *
  omega
theorem tctle_Places (xs : List DPlaces) : tot ctPlaces xs ≤ 1 * (xs.length + tot wtPlaces xs) := tot_ct_le ctle_Places xs
def mwPlaces (x : DPlaces) (k : Int) : DPlaces := { Names := mkL mkS ct1 x.Names k, Ats := mkL mkI ct1 x.Ats (k + (tot ct1 x.Names : Nat)) }
def cwPlaces (x : DPlaces) : Nat := tot ct1 x.Names + tot ct1 x.Ats
theorem set_cPlaces {xs : List DPlaces} {n : Nat} {x : DPlaces} : (xs.map cPlaces).set n [.tree 1 (x.Names.map cS), .tree 1 (x.Ats.map cI)] = (xs.set n x).map cPlaces := by rw [List.map_set]
theorem snoc_cPlaces {xs : List DPlaces} {x : DPlaces} : xs.map cPlaces ++ [[.tree 1 (x.Names.map cS), .tree 1 (x.Ats.map cI)]] = (xs ++ [x]).map cPlaces := by simp
theorem solid_cPlaces {xs : List DPlaces} : solid (xs.map cPlaces) = true := solid_map fun _ => rfl
structure DImage where
  Text : List (Int)
  Starts : List (Int)
  Size : Int
abbrev cImage (x : DImage) : List AV := [.tree 1 (x.Text.map cI), .tree 1 (x.Starts.map cI), .int .i64 x.Size]
def wtImage (x : DImage) : Nat := x.Text.length + x.Starts.length
def gdImage (x : DImage) : Prop := (x.Text.length ≤ 140737488351232 ∧ ∀ y ∈ x.Text, i64 y) ∧ (x.Starts.length ≤ 140737488351232 ∧ ∀ y ∈ x.Starts, i64 y) ∧ i64 x.Size
def mkImage (x : DImage) (k : Int) : DImage := { Text := mkL mkI ct1 x.Text k, Starts := mkL mkI ct1 x.Starts (k + (tot ct1 x.Text : Nat)), Size := ((k + (tot ct1 x.Text : Nat)) + (tot ct1 x.Starts : Nat)) }
def ctImage (x : DImage) : Nat := tot ct1 x.Text + tot ct1 x.Starts + 1
theorem ctle_Image (x : DImage) : ctImage x ≤ 1 * (1 + wtImage x) := by
  have h0 := tot_ct1 x.Text
  have h1 := tot_ct1 x.Starts
  unfold ctImage
  simp only [wtImage] at *
  omega
theorem tctle_Image (xs : List DImage) : tot ctImage xs ≤ 1 * (xs.length + tot wtImage xs) := tot_ct_le ctle_Image xs
def mwImage (x : DImage) (k : Int) : DImage := { Text := mkL mkI ct1 x.Text k, Starts := mkL mkI ct1 x.Starts (k + (tot ct1 x.Text : Nat)), Size := x.Size }
def cwImage (x : DImage) : Nat := tot ct1 x.Text + tot ct1 x.Starts
theorem set_cImage {xs : List DImage} {n : Nat} {x : DImage} : (xs.map cImage).set n [.tree 1 (x.Text.map cI), .tree 1 (x.Starts.map cI), .int .i64 x.Size] = (xs.set n x).map cImage := by rw [List.map_set]
theorem snoc_cImage {xs : List DImage} {x : DImage} : xs.map cImage ++ [[.tree 1 (x.Text.map cI), .tree 1 (x.Starts.map cI), .int .i64 x.Size]] = (xs ++ [x]).map cImage := by simp
theorem solid_cImage {xs : List DImage} : solid (xs.map cImage) = true := solid_map fun _ => rfl
structure DKernel where
  Gates : List (DGate)
  Ready : List (Int)
  Saved : List (DCore)
  Over : List (Bool)
abbrev cKernel (x : DKernel) : List AV := [.tree 3 (x.Gates.map cGate), .tree 1 (x.Ready.map cI), .tree 3 (x.Saved.map cCore), .tree 1 (x.Over.map cB)]
def wtKernel (x : DKernel) : Nat := (x.Gates.length + tot wtGate x.Gates) + x.Ready.length + (x.Saved.length + tot wtCore x.Saved) + x.Over.length
def gdKernel (x : DKernel) : Prop := (x.Gates.length ≤ 140737488351232 ∧ ∀ y ∈ x.Gates, gdGate y) ∧ (x.Ready.length ≤ 140737488351232 ∧ ∀ y ∈ x.Ready, i64 y) ∧ (x.Saved.length ≤ 140737488351232 ∧ ∀ y ∈ x.Saved, gdCore y) ∧ (x.Over.length ≤ 140737488351232)
def mkKernel (x : DKernel) (k : Int) : DKernel := { Gates := mkL mkGate ctGate x.Gates k, Ready := mkL mkI ct1 x.Ready (k + (tot ctGate x.Gates : Nat)), Saved := mkL mkCore ctCore x.Saved ((k + (tot ctGate x.Gates : Nat)) + (tot ct1 x.Ready : Nat)), Over := mkL mkB ct1 x.Over (((k + (tot ctGate x.Gates : Nat)) + (tot ct1 x.Ready : Nat)) + (tot ctCore x.Saved : Nat)) }
def ctKernel (x : DKernel) : Nat := tot ctGate x.Gates + tot ct1 x.Ready + tot ctCore x.Saved + tot ct1 x.Over
theorem ctle_Kernel (x : DKernel) : ctKernel x ≤ 2 * (1 + wtKernel x) := by
  have h0 := tctle_Gate x.Gates
  have h1 := tot_ct1 x.Ready
  have h2 := tctle_Core x.Saved
  have h3 := tot_ct1 x.Over
  unfold ctKernel
  simp only [wtKernel] at *
  omega
theorem tctle_Kernel (xs : List DKernel) : tot ctKernel xs ≤ 2 * (xs.length + tot wtKernel xs) := tot_ct_le ctle_Kernel xs
def mwKernel (x : DKernel) (k : Int) : DKernel := { Gates := mkL mkGate ctGate x.Gates k, Ready := mkL mkI ct1 x.Ready (k + (tot ctGate x.Gates : Nat)), Saved := mkL mkCore ctCore x.Saved ((k + (tot ctGate x.Gates : Nat)) + (tot ct1 x.Ready : Nat)), Over := mkL mkB ct1 x.Over (((k + (tot ctGate x.Gates : Nat)) + (tot ct1 x.Ready : Nat)) + (tot ctCore x.Saved : Nat)) }
def cwKernel (x : DKernel) : Nat := tot ctGate x.Gates + tot ct1 x.Ready + tot ctCore x.Saved + tot ct1 x.Over
theorem set_cKernel {xs : List DKernel} {n : Nat} {x : DKernel} : (xs.map cKernel).set n [.tree 3 (x.Gates.map cGate), .tree 1 (x.Ready.map cI), .tree 3 (x.Saved.map cCore), .tree 1 (x.Over.map cB)] = (xs.set n x).map cKernel := by rw [List.map_set]
theorem snoc_cKernel {xs : List DKernel} {x : DKernel} : xs.map cKernel ++ [[.tree 3 (x.Gates.map cGate), .tree 1 (x.Ready.map cI), .tree 3 (x.Saved.map cCore), .tree 1 (x.Over.map cB)]] = (xs ++ [x]).map cKernel := by simp
theorem solid_cKernel {xs : List DKernel} : solid (xs.map cKernel) = true := solid_map fun _ => rfl
def FT := (And.intro (And.intro (And.intro (And.intro (And.intro @solid_cNode @solid_cEntry) (And.intro @solid_cMonitor @solid_cProcess)) (And.intro (And.intro @solid_cProgram @solid_cGate) (And.intro @solid_cIns @solid_cCore))) (And.intro (And.intro (And.intro @solid_cPlaces @solid_cImage) (And.intro @solid_cKernel @flat_cEntry)) (And.intro (And.intro @flat_cIns @snoc_cNode) (And.intro @snoc_cEntry (And.intro @snoc_cMonitor @snoc_cProcess))))) (And.intro (And.intro (And.intro (And.intro @snoc_cProgram @snoc_cGate) (And.intro @snoc_cIns @snoc_cCore)) (And.intro (And.intro @snoc_cPlaces @snoc_cImage) (And.intro @snoc_cKernel (And.intro @set_cNode @set_cEntry)))) (And.intro (And.intro (And.intro @set_cMonitor @set_cProcess) (And.intro @set_cProgram @set_cGate)) (And.intro (And.intro @set_cIns @set_cCore) (And.intro @set_cPlaces (And.intro @set_cImage @set_cKernel))))))
theorem loop_laws_eqIntS (xs : List Int) (hl : xs.length ≤ 1073741824) :
    loopV X_laws_eqIntS 0 [0, 1, 5] [(1, []), (0, [4])] B0_laws_eqIntS ⟨[(0, .tree 1 (xs.map cI)), (1, .tree 1 (xs.map cI)), (5, .int .i64 0)], []⟩ = some (.exit 0, ⟨[], []⟩) := by
  refine loop_list xs (fun _ (_ : Unit) => True) (fun i _ => ⟨[(0, .tree 1 (xs.map cI)), (1, .tree 1 (xs.map cI)), (5, .int .i64 ((i : Nat) : Int))], []⟩) (fun _ _ => some (.exit 0, ⟨[], []⟩)) ?_ ?_ () trivial
  · intro _ _
    rw [loopV_by B0_laws_eqIntS.eq_1]
    simp only [EG, EL, ↓reduceIte, Nat.reduceEqDiff, Nat.reduceAdd, Nat.reduceSub, Nat.reduceMul, Nat.reduceLeDiff, Nat.reduceLT, Int.reduceLT, Int.reduceLE, Int.reduceEq, Int.reduceToNat, reduceCtorEq, int_lt_irrefl]
  · rintro i h x rest _ rfl rfl _ ih
    have hi : (i : Int) < (xs.length : Int) := by omega
    skip
    rw [loopV_by B0_laws_eqIntS.eq_1]
    simp (maxSteps := 10000000) (disch := first | assumption | omega) only [EG, EL, ↓reduceIte, Nat.reduceEqDiff, Nat.reduceAdd, Nat.reduceSub, Nat.reduceMul, Nat.reduceLeDiff, Nat.reduceLT, Int.reduceLT, Int.reduceLE, Int.reduceEq, Int.reduceToNat, reduceCtorEq, FB, FT, hi, wrap_succ, getRow _ _ h, cx_laws_eqIntS]
    exact ih () trivial
theorem sem_laws_eqIntS (xs : List Int) (h : xs.length ≤ 1073741824) : S_laws_eqIntS.sem [.tree 1 (xs.map cI), .tree 1 (xs.map cI)] = some (.bool true, []) := by
  rw [sg_laws_eqIntS, sem_go]
  simp (maxSteps := 10000000) (disch := omega) only [F_laws_eqIntS, params, EG, EL, ↓reduceIte, Nat.reduceEqDiff, Nat.reduceAdd, Nat.reduceSub, Nat.reduceMul, Nat.reduceLeDiff, Nat.reduceLT, Int.reduceLT, Int.reduceLE, Int.reduceEq, Int.reduceToNat, reduceCtorEq, FB, FT, cx_laws_eqIntS, loop_laws_eqIntS xs h]
theorem sem_laws_eqImage (x : DImage) (h : wtImage x ≤ 1073741824) : S_laws_eqImage.sem [.agg (cImage x), .agg (cImage x)] = some (.bool true, []) := by
  unfold wtImage at h
  rw [sg_laws_eqImage, sem_go]
  simp (maxSteps := 10000000) (disch := omega) only [F_laws_eqImage, params, EG, EL, ↓reduceIte, Nat.reduceEqDiff, Nat.reduceAdd, Nat.reduceSub, Nat.reduceMul, Nat.reduceLeDiff, Nat.reduceLT, Int.reduceLT, Int.reduceLE, Int.reduceEq, Int.reduceToNat, reduceCtorEq, FB, FT, cx_laws_eqImage, cl_laws_eqIntS, sem_laws_eqIntS]
theorem sem_laws_markIntS (xs : List Int) (k : Int) (h1 : 1 ≤ k) (h2 : k + (tot ct1 xs : Nat) ≤ 4611686018427387000) : S_laws_markIntS.sem [.tree 1 (xs.map cI), .int .i64 k] = some (.int .i64 (k + (tot ct1 xs : Nat)), (mkL mkI ct1 xs k).map cI) := by
  have hlen : xs.length ≤ tot ct1 xs := len_ct1
  have loop : loopV X_laws_markIntS 1 [0, 1, 5] [(1, [1])] B0_laws_markIntS ⟨[(0, .sl ⟨0, none, 0⟩ 1 0 xs.length), (1, .int .i64 k), (5, .int .i64 0)], [some ⟨false, 0, 1, xs.map cI⟩]⟩ = some (.exit 0, ⟨[(1, .int .i64 (k + (tot ct1 xs : Nat)))], [some ⟨false, 0, 1, (mkL mkI ct1 xs k).map cI⟩]⟩) := by
    refine loop_list xs (fun i (a : List Int × Int) => a.1.length = i ∧ 1 ≤ a.2 ∧ a.2 + (tot ct1 (xs.drop i) : Nat) ≤ 4611686018427387000) (fun i a => ⟨[(0, .sl ⟨0, none, 0⟩ 1 0 xs.length), (1, .int .i64 a.2), (5, .int .i64 ((i : Nat) : Int))], [some ⟨false, 0, 1, (a.1 ++ xs.drop i).map cI⟩]⟩) (fun rest a => some (.exit 0, ⟨[(1, .int .i64 (a.2 + (tot ct1 rest : Nat)))], [some ⟨false, 0, 1, (a.1 ++ mkL mkI ct1 rest a.2).map cI⟩]⟩)) ?_ ?_ ([], k) ⟨rfl, h1, h2⟩
    · rintro a ⟨hy, a1, a2⟩
      rw [loopV_by B0_laws_markIntS.eq_1]
      simp only [EG, EL, ↓reduceIte, Nat.reduceEqDiff, Nat.reduceAdd, Nat.reduceSub, Nat.reduceMul, Nat.reduceLeDiff, Nat.reduceLT, Int.reduceLT, Int.reduceLE, Int.reduceEq, Int.reduceToNat, reduceCtorEq, int_lt_irrefl, List.drop_length, tot, mkL, Int.natCast_zero, Int.add_zero]
    · rintro i h x rest a rfl rfl ⟨hy, a1, a2⟩ ih
      have hi : (i : Int) < (xs.length : Int) := by omega
      have hd : xs.drop i = xs[i] :: xs.drop (i + 1) := List.drop_eq_getElem_cons h
      have ht : tot ct1 (xs.drop i) = ct1 xs[i] + tot ct1 (xs.drop (i + 1)) := by rw [hd]; rfl
      have hc : ct1 xs[i] = 1 := rfl
      have hlm : i < ((a.1 ++ xs.drop i).map cI).length := by rw [mid_len hy h]; exact h
      have hll : i < a.1.length + (xs.drop i).length := by rw [List.length_drop]; omega
      have hg := mid_get (c := cI) hy h
      have hf := mid_set (c := cI) hy h (x := a.2) rfl
      have hk : (a.2 + 1) = a.2 + ((ct1 xs[i] : Nat) : Int) := by rw [hc]; omega
      simp only [cI] at hf
      rw [loopV_by B0_laws_markIntS.eq_1]
      simp (maxSteps := 10000000) (disch := first | assumption | omega) only [EG, EL, ↓reduceIte, Nat.reduceEqDiff, Nat.reduceAdd, Nat.reduceSub, Nat.reduceMul, Nat.reduceLeDiff, Nat.reduceLT, Int.reduceLT, Int.reduceLE, Int.reduceEq, Int.reduceToNat, reduceCtorEq, FB, FT, hi, h, hg, hlm, hll, cx_laws_markIntS, wrapI, splice_eq, set_getD, set_set, hf]
      rw [show ((i : Nat) : Int) + 1 = ((i + 1 : Nat) : Int) by omega]
      have hih := ih (a.1 ++ [a.2], (a.2 + 1)) ⟨by simp [hy], by show 1 ≤ (a.2 + 1); omega, by show (a.2 + 1) + _ ≤ _; omega⟩
      simp only [eq_self] at hih
      rw [hih]
      simp only [hk, tot, mkL, List.append_assoc, List.singleton_append]
      rw [show a.2 + ((ct1 xs[i] : Nat) : Int) + ((tot ct1 (xs.drop (i + 1)) : Nat) : Int) = a.2 + ((ct1 xs[i] + tot ct1 (xs.drop (i + 1)) : Nat) : Int) by omega]
      try rfl
  rw [sg_laws_markIntS, sem_goM]
  simp (maxSteps := 10000000) (disch := first | assumption | omega) only [F_laws_markIntS, params, EG, EL, ↓reduceIte, Nat.reduceEqDiff, Nat.reduceAdd, Nat.reduceSub, Nat.reduceMul, Nat.reduceLeDiff, Nat.reduceLT, Int.reduceLT, Int.reduceLE, Int.reduceEq, Int.reduceToNat, reduceCtorEq, FB, FT, cx_laws_markIntS, loop]
theorem sem_laws_heldIntS (xs : List Int) (k : Int) (h1 : 1 ≤ k) (h2 : k + (tot ct1 xs : Nat) ≤ 4611686018427387000) : S_laws_heldIntS.sem [.tree 1 ((mkL mkI ct1 xs k).map cI), .int .i64 k] = some (.int .i64 (k + (tot ct1 xs : Nat)), []) := by
  have hlen : xs.length ≤ tot ct1 xs := len_ct1
  have hML : (mkL mkI ct1 xs k).length = xs.length := mkL_length
  have loop : loopV X_laws_heldIntS 0 [0, 1, 5] [(1, [1]), (0, [4])] B0_laws_heldIntS ⟨[(0, .tree 1 ((mkL mkI ct1 xs k).map cI)), (1, .int .i64 k), (5, .int .i64 0)], []⟩ = some (Ex.exit 0, (⟨[(1, .int .i64 (k + (tot ct1 xs : Nat)))], []⟩ : St)) := by
    refine loop_list xs (fun i (m : Int) => m = k + (tot ct1 (xs.take i) : Nat)) (fun i m => ⟨[(0, .tree 1 ((mkL mkI ct1 xs k).map cI)), (1, .int .i64 m), (5, .int .i64 ((i : Nat) : Int))], []⟩) (fun rest a => some (Ex.exit 0, (⟨[(1, .int .i64 (k + (tot ct1 xs : Nat)))], []⟩ : St))) ?_ ?_ k (by simp [tot])
    · rintro m rfl
      rw [loopV_by B0_laws_heldIntS.eq_1]
      simp only [EG, EL, ↓reduceIte, Nat.reduceEqDiff, Nat.reduceAdd, Nat.reduceSub, Nat.reduceMul, Nat.reduceLeDiff, Nat.reduceLT, Int.reduceLT, Int.reduceLE, Int.reduceEq, Int.reduceToNat, reduceCtorEq, int_lt_irrefl, hML, tot_take_end]
    · rintro i h x rest m rfl rfl hm ih
      have hi : (i : Int) < (xs.length : Int) := by omega
      have ht := tot_take_le (f := ct1) h
      have hs := tot_take1 (f := ct1) h
      have hc : ct1 xs[i] = 1 := rfl
      have hg : ((mkL mkI ct1 xs k).map cI).getD i [] = cI (mkI xs[i] m) := by
        have h' : i < (mkL mkI ct1 xs k).length := by omega
        rw [getRow _ _ h', mkL_get h, hm]
      simp only [cI, mkI] at hg
      rw [loopV_by B0_laws_heldIntS.eq_1]
      simp (maxSteps := 10000000) (disch := first | assumption | omega) only [EG, EL, ↓reduceIte, Nat.reduceEqDiff, Nat.reduceAdd, Nat.reduceSub, Nat.reduceMul, Nat.reduceLeDiff, Nat.reduceLT, Int.reduceLT, Int.reduceLE, Int.reduceEq, Int.reduceToNat, reduceCtorEq, FB, FT, hi, hML, hg, cx_laws_heldIntS, wrapI]
      repeat rw [if_neg (by omega)]
      rw [show ((i : Nat) : Int) + 1 = ((i + 1 : Nat) : Int) by omega]
      exact ih _ (by omega)
  rw [sg_laws_heldIntS, sem_go]
  simp (maxSteps := 10000000) (disch := first | assumption | omega) only [F_laws_heldIntS, params, EG, EL, ↓reduceIte, Nat.reduceEqDiff, Nat.reduceAdd, Nat.reduceSub, Nat.reduceMul, Nat.reduceLeDiff, Nat.reduceLT, Int.reduceLT, Int.reduceLE, Int.reduceEq, Int.reduceToNat, reduceCtorEq, FB, FT, cx_laws_heldIntS, loop]
theorem sem_laws_heldImage (x : DImage) (k : Int) (h1 : 1 ≤ k) (h2 : k + (cwImage x : Nat) ≤ 4611686018427387000) : S_laws_heldImage.sem [.agg [.tree 1 ((mkL mkI ct1 x.Text k).map cI), .tree 1 ((mkL mkI ct1 x.Starts (k + (tot ct1 x.Text : Nat))).map cI), .int .i64 x.Size], .int .i64 k] = some (.int .i64 ((k + (tot ct1 x.Text : Nat)) + (tot ct1 x.Starts : Nat)), []) := by
  show S_laws_heldImage.sem [.agg (cImage (mwImage x k)), .int .i64 k] = some (.int .i64 ((k + (tot ct1 x.Text : Nat)) + (tot ct1 x.Starts : Nat)), [])
  have hc : cwImage x = tot ct1 x.Text + tot ct1 x.Starts := rfl
  rw [sg_laws_heldImage, sem_go]
  simp (maxSteps := 10000000) (disch := first | assumption | omega) only [F_laws_heldImage, params, EG, EL, ↓reduceIte, Nat.reduceEqDiff, Nat.reduceAdd, Nat.reduceSub, Nat.reduceMul, Nat.reduceLeDiff, Nat.reduceLT, Int.reduceLT, Int.reduceLE, Int.reduceEq, Int.reduceToNat, reduceCtorEq, FB, FT, cx_laws_heldImage, cl_laws_heldIntS, sem_laws_heldIntS, mwImage]
  repeat rw [if_neg (by omega)]
/-! gates -/
/-- In line, each in 0 .. 3 and none of those seen. -/
def freshB (seen : List Int) : List Int → Bool
  | [] => true
  | x :: xs => decide (0 ≤ x ∧ x ≤ 3) && (decide (x ∉ seen) && freshB (seen ++ [x]) xs)
def qfreshB (seen : List Int) : List Int → Bool
  | [] => true
  | x :: xs => if x = -1 then qfreshB (seen ++ [x]) xs else decide (0 ≤ x ∧ x ≤ 3) && (decide (x ∉ seen) && qfreshB (seen ++ [x]) xs)
def somebody (xs : List Int) : List Int := xs.filter (fun x => decide (x ≠ -1))
theorem freshB_app : ∀ (xs ys seen : List Int), freshB seen (xs ++ ys) = (freshB seen xs && freshB (seen ++ xs) ys)
  | [], ys, seen => by simp [freshB]
  | x :: xs, ys, seen => by
    simp only [List.cons_append, freshB, freshB_app xs ys (seen ++ [x]), List.append_assoc, List.singleton_append, List.nil_append, Bool.and_assoc]
theorem freshB_mem : ∀ (xs seen : List Int), freshB seen xs = true → ∀ x ∈ xs, 0 ≤ x ∧ x ≤ 3
  | [], _, _, x, hx => by simp at hx
  | y :: ys, seen, h, x, hx => by
    unfold freshB at h
    simp only [Bool.and_eq_true, decide_eq_true_eq] at h
    rcases List.mem_cons.1 hx with rfl | hx
    · exact h.1
    · exact freshB_mem ys _ h.2.2 x hx
theorem qfreshB_eq : ∀ (xs seen : List Int), qfreshB seen xs = freshB (somebody seen) (somebody xs)
  | [], seen => rfl
  | x :: xs, seen => by
    unfold qfreshB
    rw [qfreshB_eq xs (seen ++ [x])]
    by_cases h : x = -1
    · subst h
      simp [somebody]
    · have hm : x ∈ somebody seen ↔ x ∈ seen := by simp [somebody, h]
      rw [if_neg h]
      have e : somebody (x :: xs) = x :: somebody xs := by simp [somebody, h]
      rw [e]
      have e2 : somebody (seen ++ [x]) = somebody seen ++ [x] := by simp [somebody, h]
      rw [e2]
      conv => rhs; unfold freshB
      simp only [hm]
/-- A right gate. -/
def gateOk (owner : Int) (waits queues : List Int) : Bool :=
  decide (queues.length ≤ 2) && (freshB [] ((if owner = -1 then [] else [owner]) ++ waits ++ somebody queues) && decide (owner ≠ -1 ∨ waits.length = 0))
theorem gateOk_low {owner : Int} {waits queues : List Int} (h : ¬ (-1 ≤ owner ∧ owner ≤ 3)) : gateOk owner waits queues = false := by
  unfold gateOk
  rw [if_neg (by omega)]
  simp only [List.cons_append, List.nil_append]
  unfold freshB
  have : ¬ (0 ≤ owner ∧ owner ≤ 3) := by omega
  simp [this]
def inGate (owner : Int) (waits queues : List Int) : List Int := (if owner = -1 then [] else [owner]) ++ waits ++ somebody queues
theorem inGate_len (owner : Int) (waits queues : List Int) : (inGate owner waits queues).length ≤ 1 + waits.length + queues.length := by
  unfold inGate somebody
  have := List.length_filter_le (fun x : Int => decide (x ≠ -1)) queues
  rw [List.length_append, List.length_append]
  split <;> simp only [List.length_nil, List.length_cons] <;> omega
/-- How the reference tells a right gate. -/
theorem gateOk_spec (owner : Int) (waits queues : List Int) : gateOk owner waits queues = (decide (-1 ≤ owner ∧ owner ≤ 3) && (decide (queues.length ≤ 2) && (!(decide (owner < 0) && decide (0 < waits.length)) && (freshB (if 0 ≤ owner then [owner] else []) waits && qfreshB ((if 0 ≤ owner then [owner] else []) ++ waits) queues)))) := by
  by_cases h1 : -1 ≤ owner ∧ owner ≤ 3
  · by_cases h3 : owner < 0
    · have ho : owner = -1 := by omega
      subst ho
      by_cases h4 : waits = []
      · subst h4
        rw [qfreshB_eq]
        simp [gateOk, freshB, somebody]
      · have : ¬ waits.length = 0 := by simpa using h4
        simp [gateOk, h4, List.length_pos_iff]
    · have ho : ¬ owner = -1 := by omega
      have ho2 : 0 ≤ owner ∧ owner ≤ 3 := by omega
      rw [if_pos ho2.1, qfreshB_eq]
      unfold gateOk
      rw [if_neg ho, freshB_app ([owner] ++ waits), freshB_app [owner]]
      have e1 : freshB [] [owner] = true := by simp [freshB, ho2]
      rw [e1]
      simp only [h1, h3, and_self, decide_true, decide_false, Bool.true_and, List.nil_append, ho, not_false_eq_true, true_or, ne_eq, Bool.and_true, Bool.false_and, Bool.not_false]
      cases hf : freshB [owner] waits with
      | false => simp
      | true =>
        have hm := freshB_mem _ _ hf
        have e2 : somebody ([owner] ++ waits) = [owner] ++ waits := by
          unfold somebody
          rw [List.filter_eq_self]
          intro x hx
          rcases List.mem_append.1 hx with hx | hx
          · have := List.mem_singleton.1 hx
            exact decide_eq_true (by omega)
          · have := hm x hx
            exact decide_eq_true (by omega)
        rw [e2]
  · rw [gateOk_low h1]
    simp [h1]
theorem map_cI_snoc {xs : List Int} {y : Int} : xs.map cI ++ [[.int .i64 y]] = (xs ++ [y]).map cI := by simp
theorem map_cI_app {xs ys : List Int} : xs.map cI ++ ys.map cI = (xs ++ ys).map cI := by simp
theorem map_cI_one {y : Int} : [[AV.int .i64 y]] = [y].map cI := rfl
/-- A loop that goes on, or gives false. -/
def okR (b : Bool) (e : Nat) (s : St) (t : Nat) : Option (Ex × St) := if b = true then some (.exit e, s) else some (.ret, ⟨[(t, .bool false)], []⟩)
theorem okR_true {e t : Nat} {s : St} : okR true e s t = some (.exit e, s) := rfl
theorem okR_false {e t : Nat} {s : St} : okR false e s t = some (.ret, ⟨[(t, .bool false)], []⟩) := rfl
theorem goE_okR {ctx : Ctx} {base : Nat} {b : Bool} {e t : Nat} {s : St} {K : List Fr} : goE ctx base (okR b e s t) K = if b = true then unw ctx base K (.exit e) s else unw ctx base K .ret ⟨[(t, .bool false)], []⟩ := by
  unfold okR; split <;> rfl
theorem mem_fIx {xs : List Int} {x : Int} : ∀ {i : Nat}, (0 ≤ fIx (fun y => decide (x = y)) xs i) = (x ∈ xs) := by
  induction xs with
  | nil => intro i; simp [fIx]
  | cons y ys ih =>
    intro i
    by_cases h : x = y
    · subst h; simp [fIx]
    · simp only [fIx, h, decide_false, Bool.false_eq_true, if_false, ih, List.mem_cons, false_or]
theorem sem_spec_l01In (a lo hi : Int) : S_spec_l01In.sem [.int .i64 a, .int .i64 lo, .int .i64 hi] = some (.bool (decide (lo ≤ a ∧ a ≤ hi)), []) := by
  rw [sg_spec_l01In, sem_go]
  simp (maxSteps := 10000000) (disch := first | assumption | omega) only [F_spec_l01In, params, EG, EL, ↓reduceIte, Nat.reduceEqDiff, Nat.reduceAdd, Nat.reduceSub, Nat.reduceMul, Nat.reduceLeDiff, Nat.reduceLT, Int.reduceLT, Int.reduceLE, Int.reduceEq, Int.reduceToNat, reduceCtorEq, FB, cx_spec_l01In]
  by_cases h1 : lo ≤ a <;> by_cases h2 : a ≤ hi <;> simp [h1, h2]
theorem sem_impl_within (a lo hi : Int) : S_impl_within.sem [.int .i64 a, .int .i64 lo, .int .i64 hi] = some (.bool (decide (lo ≤ a ∧ a ≤ hi)), []) := by
  rw [sg_impl_within, sem_go]
  simp (maxSteps := 10000000) (disch := first | assumption | omega) only [F_impl_within, params, EG, EL, ↓reduceIte, Nat.reduceEqDiff, Nat.reduceAdd, Nat.reduceSub, Nat.reduceMul, Nat.reduceLeDiff, Nat.reduceLT, Int.reduceLT, Int.reduceLE, Int.reduceEq, Int.reduceToNat, reduceCtorEq, FB, cx_impl_within]
  by_cases h1 : lo ≤ a <;> by_cases h2 : a ≤ hi <;> simp [h1, h2]
def gateNew (n : Int) : DGate := ⟨-1, [], if 0 < n then (if 1 < n then [-1, -1] else [-1]) else []⟩
theorem wrap_one : IntKind.wrap .i64 (0 + 1) = 1 := by decide
theorem wrap_two : IntKind.wrap .i64 (1 + 1) = 2 := by decide
theorem min2_0 {n : Int} : (0 < (if 2 < n then 2 else n)) = (0 < n) := by split <;> simp <;> omega
theorem min2_1 {n : Int} : (1 < (if 2 < n then 2 else n)) = (1 < n) := by split <;> simp <;> omega
theorem min2_2 {n : Int} : (2 < (if 2 < n then 2 else n)) = False := by split <;> simp <;> omega
def procCore (x : DImage) (i : Nat) : DCore := ⟨List.replicate 8 0, if h : i < x.Starts.length then x.Starts[i] else 0, i⟩
def coresF (x : DImage) : List DProcess → Nat → List DCore
  | [], _ => []
  | _ :: r, i => procCore x i :: coresF x r (i + 1)
def readyF : List DProcess → Nat → List Int
  | [], _ => []
  | _ :: r, i => (i : Int) :: readyF r (i + 1)
def overF : List DProcess → List Bool
  | [] => []
  | _ :: r => false :: overF r
def monG (m : DMonitor) : DGate := gateNew m.Queues.length
def kernelNew (p : DProgram) (x : DImage) : DKernel := ⟨p.Monitors.map monG, readyF p.Processes 0, coresF x p.Processes 0, overF p.Processes⟩
theorem gateNew_len {n : Int} : (gateNew n).Waits.length + (gateNew n).Queues.length ≤ 2 := by
  unfold gateNew; split <;> (try split) <;> simp
theorem tot_monG : ∀ {ms : List DMonitor}, tot wtGate (ms.map monG) ≤ 2 * ms.length
  | [] => Nat.le_refl _
  | m :: ms => by
    have := @tot_monG ms
    have h := @gateNew_len (m.Queues.length : Int)
    simp only [List.map_cons, tot, List.length_cons, monG, wtGate] at *
    omega
theorem coresF_tot {x : DImage} : ∀ {ps : List DProcess} {i : Nat}, tot wtCore (coresF x ps i) = 8 * ps.length ∧ (coresF x ps i).length = ps.length ∧ (readyF ps i).length = ps.length ∧ (overF ps).length = ps.length
  | [], _ => ⟨rfl, rfl, rfl, rfl⟩
  | p :: ps, i => by
    obtain ⟨a, b, c, d⟩ := @coresF_tot x ps (i + 1)
    simp only [coresF, readyF, overF, tot, List.length_cons, wtCore, procCore, List.length_replicate] at *
    omega
def insOk (op a b c : Int) : Bool := decide ((1 ≤ op ∧ op ≤ 10) ∧ (0 ≤ a ∧ a ≤ 7) ∧ (0 ≤ b ∧ b ≤ 7) ∧ (0 ≤ c ∧ c ≤ 4194303) ∧ (op = 4 ∨ b = 0) ∧ (op ≠ 1 ∨ c ≤ 1000000) ∧ (op ≠ 4 ∨ (1 ≤ c ∧ c ≤ 9)) ∧ ((op ≠ 5 ∧ op ≠ 6) ∨ c = 0) ∧ (op ≠ 8 ∨ a = 0) ∧ (op ≠ 10 ∨ 1 ≤ a))
theorem insOk_no {op a b c : Int} (h : ¬ ((1 ≤ op ∧ op ≤ 10) ∧ (0 ≤ a ∧ a ≤ 7) ∧ (0 ≤ b ∧ b ≤ 7) ∧ (0 ≤ c ∧ c ≤ 4194303) ∧ (op = 4 ∨ b = 0))) : insOk op a b c = false := by
  unfold insOk; apply decide_eq_false; omega
theorem insOk_t {op a b c : Int} (h : (1 ≤ op ∧ op ≤ 10) ∧ (0 ≤ a ∧ a ≤ 7) ∧ (0 ≤ b ∧ b ≤ 7) ∧ (0 ≤ c ∧ c ≤ 4194303) ∧ (op = 4 ∨ b = 0) ∧ (op ≠ 1 ∨ c ≤ 1000000) ∧ (op ≠ 4 ∨ (1 ≤ c ∧ c ≤ 9)) ∧ ((op ≠ 5 ∧ op ≠ 6) ∨ c = 0) ∧ (op ≠ 8 ∨ a = 0) ∧ (op ≠ 10 ∨ 1 ≤ a)) : some (AV.bool true, ([] : List (List AV))) = some (.bool (insOk op a b c), []) := by
  unfold insOk; rw [decide_eq_true h]
theorem insOk_f {op a b c : Int} (h : ¬ ((1 ≤ op ∧ op ≤ 10) ∧ (0 ≤ a ∧ a ≤ 7) ∧ (0 ≤ b ∧ b ≤ 7) ∧ (0 ≤ c ∧ c ≤ 4194303) ∧ (op = 4 ∨ b = 0) ∧ (op ≠ 1 ∨ c ≤ 1000000) ∧ (op ≠ 4 ∨ (1 ≤ c ∧ c ≤ 9)) ∧ ((op ≠ 5 ∧ op ≠ 6) ∨ c = 0) ∧ (op ≠ 8 ∨ a = 0) ∧ (op ≠ 10 ∨ 1 ≤ a))) : some (AV.bool false, ([] : List (List AV))) = some (.bool (insOk op a b c), []) := by
  unfold insOk; rw [decide_eq_false h]
theorem insOk_d {op a b c : Int} {p : Prop} [Decidable p] (h : p ↔ ((1 ≤ op ∧ op ≤ 10) ∧ (0 ≤ a ∧ a ≤ 7) ∧ (0 ≤ b ∧ b ≤ 7) ∧ (0 ≤ c ∧ c ≤ 4194303) ∧ (op = 4 ∨ b = 0) ∧ (op ≠ 1 ∨ c ≤ 1000000) ∧ (op ≠ 4 ∨ (1 ≤ c ∧ c ≤ 9)) ∧ ((op ≠ 5 ∧ op ≠ 6) ∨ c = 0) ∧ (op ≠ 8 ∨ a = 0) ∧ (op ≠ 10 ∨ 1 ≤ a))) : some (AV.bool (decide p), ([] : List (List AV))) = some (.bool (insOk op a b c), []) := by
  unfold insOk; rw [decide_eq_decide.2 h]
theorem sem_spec_InsOk (op a b c : Int) : S_spec_InsOk.sem [.agg [.int .i64 op, .int .i64 a, .int .i64 b, .int .i64 c]] = some (.bool (insOk op a b c), []) := by
  rw [sg_spec_InsOk, sem_go]
  by_cases h1 : 1 ≤ op ∧ op ≤ 10
  · by_cases h2 : 0 ≤ a ∧ a ≤ 7
    · by_cases h3 : 0 ≤ b ∧ b ≤ 7
      · by_cases h4 : 0 ≤ c ∧ c ≤ 4194303
        · by_cases h5 : b = 0
          · subst h5
            have hb : (0 : Int) ≤ 0 ∧ (0 : Int) ≤ 7 := by omega
            have : op = 1 ∨ op = 2 ∨ op = 3 ∨ op = 4 ∨ op = 5 ∨ op = 6 ∨ op = 7 ∨ op = 8 ∨ op = 9 ∨ op = 10 := by omega
            rcases this with rfl | rfl | rfl | rfl | rfl | rfl | rfl | rfl | rfl | rfl
            all_goals simp (maxSteps := 10000000) (disch := first | assumption | omega) only [F_spec_InsOk, params, EG, EL, ↓reduceIte, Nat.reduceEqDiff, Nat.reduceAdd, Nat.reduceSub, Nat.reduceMul, Nat.reduceLeDiff, Nat.reduceLT, Int.reduceLT, Int.reduceLE, Int.reduceEq, Int.reduceToNat, reduceCtorEq, FB, ED, cx_spec_InsOk, cl_spec_l01In, sem_spec_l01In,  h1, h2, hb, h4, decide_true, decide_false, Bool.not_true, Bool.not_false]
            all_goals first | exact insOk_t (by omega) | exact insOk_d (by omega) | (split <;> first | exact insOk_t (by omega) | exact insOk_f (by omega)) | (by_cases h9 : 1 ≤ a ∧ a ≤ 7 <;> simp only [h9, if_true, if_false, decide_true, decide_false] <;> first | exact insOk_t (by omega) | exact insOk_f (by omega))
          · by_cases h6 : op = 4
            · subst h6
              simp (maxSteps := 10000000) (disch := first | assumption | omega) only [F_spec_InsOk, params, EG, EL, ↓reduceIte, Nat.reduceEqDiff, Nat.reduceAdd, Nat.reduceSub, Nat.reduceMul, Nat.reduceLeDiff, Nat.reduceLT, Int.reduceLT, Int.reduceLE, Int.reduceEq, Int.reduceToNat, reduceCtorEq, FB, ED, cx_spec_InsOk, cl_spec_l01In, sem_spec_l01In,  h1, h2, h3, h4, h5, decide_true, decide_false, Bool.not_true, Bool.not_false]
              all_goals first | exact insOk_t (by omega) | exact insOk_d (by omega) | (split <;> first | exact insOk_t (by omega) | exact insOk_f (by omega)) | (by_cases h9 : 1 ≤ a ∧ a ≤ 7 <;> simp only [h9, if_true, if_false, decide_true, decide_false] <;> first | exact insOk_t (by omega) | exact insOk_f (by omega))
            · by_cases h7 : op = 10
              · subst h7
                rw [insOk_no (by omega)]
                simp (maxSteps := 10000000) (disch := first | assumption | omega) only [F_spec_InsOk, params, EG, EL, ↓reduceIte, Nat.reduceEqDiff, Nat.reduceAdd, Nat.reduceSub, Nat.reduceMul, Nat.reduceLeDiff, Nat.reduceLT, Int.reduceLT, Int.reduceLE, Int.reduceEq, Int.reduceToNat, reduceCtorEq, FB, ED, cx_spec_InsOk, cl_spec_l01In, sem_spec_l01In,  h1, h2, h3, h4, h5, decide_true, decide_false, Bool.not_true, Bool.not_false]
                try simp
              · rw [insOk_no (by omega)]
                simp (maxSteps := 10000000) (disch := first | assumption | omega) only [F_spec_InsOk, params, EG, EL, ↓reduceIte, Nat.reduceEqDiff, Nat.reduceAdd, Nat.reduceSub, Nat.reduceMul, Nat.reduceLeDiff, Nat.reduceLT, Int.reduceLT, Int.reduceLE, Int.reduceEq, Int.reduceToNat, reduceCtorEq, FB, ED, cx_spec_InsOk, cl_spec_l01In, sem_spec_l01In,  h1, h2, h3, h4, h5, h6, h7, decide_true, decide_false, Bool.not_true, Bool.not_false]
        · rw [insOk_no (by omega)]
          simp (maxSteps := 10000000) (disch := first | assumption | omega) only [F_spec_InsOk, params, EG, EL, ↓reduceIte, Nat.reduceEqDiff, Nat.reduceAdd, Nat.reduceSub, Nat.reduceMul, Nat.reduceLeDiff, Nat.reduceLT, Int.reduceLT, Int.reduceLE, Int.reduceEq, Int.reduceToNat, reduceCtorEq, FB, ED, cx_spec_InsOk, cl_spec_l01In, sem_spec_l01In,  h1, h2, h3, h4, decide_true, decide_false, Bool.not_true, Bool.not_false]
      · rw [insOk_no (by omega)]
        simp (maxSteps := 10000000) (disch := first | assumption | omega) only [F_spec_InsOk, params, EG, EL, ↓reduceIte, Nat.reduceEqDiff, Nat.reduceAdd, Nat.reduceSub, Nat.reduceMul, Nat.reduceLeDiff, Nat.reduceLT, Int.reduceLT, Int.reduceLE, Int.reduceEq, Int.reduceToNat, reduceCtorEq, FB, ED, cx_spec_InsOk, cl_spec_l01In, sem_spec_l01In,  h1, h2, h3, decide_true, decide_false, Bool.not_true, Bool.not_false]
    · rw [insOk_no (by omega)]
      simp (maxSteps := 10000000) (disch := first | assumption | omega) only [F_spec_InsOk, params, EG, EL, ↓reduceIte, Nat.reduceEqDiff, Nat.reduceAdd, Nat.reduceSub, Nat.reduceMul, Nat.reduceLeDiff, Nat.reduceLT, Int.reduceLT, Int.reduceLE, Int.reduceEq, Int.reduceToNat, reduceCtorEq, FB, ED, cx_spec_InsOk, cl_spec_l01In, sem_spec_l01In,  h1, h2, decide_true, decide_false, Bool.not_true, Bool.not_false]
  · rw [insOk_no (by omega)]
    simp (maxSteps := 10000000) (disch := first | assumption | omega) only [F_spec_InsOk, params, EG, EL, ↓reduceIte, Nat.reduceEqDiff, Nat.reduceAdd, Nat.reduceSub, Nat.reduceMul, Nat.reduceLeDiff, Nat.reduceLT, Int.reduceLT, Int.reduceLE, Int.reduceEq, Int.reduceToNat, reduceCtorEq, FB, ED, cx_spec_InsOk, cl_spec_l01In, sem_spec_l01In,  h1, decide_true, decide_false, Bool.not_true, Bool.not_false]
theorem sem_impl_InsOk (op a b c : Int) : S_impl_InsOk.sem [.agg [.int .i64 op, .int .i64 a, .int .i64 b, .int .i64 c]] = some (.bool (insOk op a b c), []) := by
  rw [sg_impl_InsOk, sem_go]
  by_cases h1 : 1 ≤ op ∧ op ≤ 10
  · by_cases h2 : 0 ≤ a ∧ a ≤ 7
    · by_cases h3 : 0 ≤ b ∧ b ≤ 7
      · by_cases h4 : 0 ≤ c ∧ c ≤ 4194303
        · by_cases h5 : b = 0
          · subst h5
            have hb : (0 : Int) ≤ 0 ∧ (0 : Int) ≤ 7 := by omega
            have : op = 1 ∨ op = 2 ∨ op = 3 ∨ op = 4 ∨ op = 5 ∨ op = 6 ∨ op = 7 ∨ op = 8 ∨ op = 9 ∨ op = 10 := by omega
            rcases this with rfl | rfl | rfl | rfl | rfl | rfl | rfl | rfl | rfl | rfl
            all_goals simp (maxSteps := 10000000) (disch := first | assumption | omega) only [F_impl_InsOk, params, EG, EL, ↓reduceIte, Nat.reduceEqDiff, Nat.reduceAdd, Nat.reduceSub, Nat.reduceMul, Nat.reduceLeDiff, Nat.reduceLT, Int.reduceLT, Int.reduceLE, Int.reduceEq, Int.reduceToNat, reduceCtorEq, FB, ED, cx_impl_InsOk, cl_impl_within, sem_impl_within,  h1, h2, hb, h4, decide_true, decide_false, Bool.not_true, Bool.not_false]
            all_goals first | exact insOk_t (by omega) | exact insOk_d (by omega) | (split <;> first | exact insOk_t (by omega) | exact insOk_f (by omega)) | (by_cases h9 : 1 ≤ a ∧ a ≤ 7 <;> simp only [h9, if_true, if_false, decide_true, decide_false] <;> first | exact insOk_t (by omega) | exact insOk_f (by omega))
          · by_cases h6 : op = 4
            · subst h6
              simp (maxSteps := 10000000) (disch := first | assumption | omega) only [F_impl_InsOk, params, EG, EL, ↓reduceIte, Nat.reduceEqDiff, Nat.reduceAdd, Nat.reduceSub, Nat.reduceMul, Nat.reduceLeDiff, Nat.reduceLT, Int.reduceLT, Int.reduceLE, Int.reduceEq, Int.reduceToNat, reduceCtorEq, FB, ED, cx_impl_InsOk, cl_impl_within, sem_impl_within,  h1, h2, h3, h4, h5, decide_true, decide_false, Bool.not_true, Bool.not_false]
              all_goals first | exact insOk_t (by omega) | exact insOk_d (by omega) | (split <;> first | exact insOk_t (by omega) | exact insOk_f (by omega)) | (by_cases h9 : 1 ≤ a ∧ a ≤ 7 <;> simp only [h9, if_true, if_false, decide_true, decide_false] <;> first | exact insOk_t (by omega) | exact insOk_f (by omega))
            · by_cases h7 : op = 10
              · subst h7
                rw [insOk_no (by omega)]
                simp (maxSteps := 10000000) (disch := first | assumption | omega) only [F_impl_InsOk, params, EG, EL, ↓reduceIte, Nat.reduceEqDiff, Nat.reduceAdd, Nat.reduceSub, Nat.reduceMul, Nat.reduceLeDiff, Nat.reduceLT, Int.reduceLT, Int.reduceLE, Int.reduceEq, Int.reduceToNat, reduceCtorEq, FB, ED, cx_impl_InsOk, cl_impl_within, sem_impl_within,  h1, h2, h3, h4, h5, decide_true, decide_false, Bool.not_true, Bool.not_false]
                try simp
              · rw [insOk_no (by omega)]
                simp (maxSteps := 10000000) (disch := first | assumption | omega) only [F_impl_InsOk, params, EG, EL, ↓reduceIte, Nat.reduceEqDiff, Nat.reduceAdd, Nat.reduceSub, Nat.reduceMul, Nat.reduceLeDiff, Nat.reduceLT, Int.reduceLT, Int.reduceLE, Int.reduceEq, Int.reduceToNat, reduceCtorEq, FB, ED, cx_impl_InsOk, cl_impl_within, sem_impl_within,  h1, h2, h3, h4, h5, h6, h7, decide_true, decide_false, Bool.not_true, Bool.not_false]
        · rw [insOk_no (by omega)]
          simp (maxSteps := 10000000) (disch := first | assumption | omega) only [F_impl_InsOk, params, EG, EL, ↓reduceIte, Nat.reduceEqDiff, Nat.reduceAdd, Nat.reduceSub, Nat.reduceMul, Nat.reduceLeDiff, Nat.reduceLT, Int.reduceLT, Int.reduceLE, Int.reduceEq, Int.reduceToNat, reduceCtorEq, FB, ED, cx_impl_InsOk, cl_impl_within, sem_impl_within,  h1, h2, h3, h4, decide_true, decide_false, Bool.not_true, Bool.not_false]
      · rw [insOk_no (by omega)]
        simp (maxSteps := 10000000) (disch := first | assumption | omega) only [F_impl_InsOk, params, EG, EL, ↓reduceIte, Nat.reduceEqDiff, Nat.reduceAdd, Nat.reduceSub, Nat.reduceMul, Nat.reduceLeDiff, Nat.reduceLT, Int.reduceLT, Int.reduceLE, Int.reduceEq, Int.reduceToNat, reduceCtorEq, FB, ED, cx_impl_InsOk, cl_impl_within, sem_impl_within,  h1, h2, h3, decide_true, decide_false, Bool.not_true, Bool.not_false]
    · rw [insOk_no (by omega)]
      simp (maxSteps := 10000000) (disch := first | assumption | omega) only [F_impl_InsOk, params, EG, EL, ↓reduceIte, Nat.reduceEqDiff, Nat.reduceAdd, Nat.reduceSub, Nat.reduceMul, Nat.reduceLeDiff, Nat.reduceLT, Int.reduceLT, Int.reduceLE, Int.reduceEq, Int.reduceToNat, reduceCtorEq, FB, ED, cx_impl_InsOk, cl_impl_within, sem_impl_within,  h1, h2, decide_true, decide_false, Bool.not_true, Bool.not_false]
  · rw [insOk_no (by omega)]
    simp (maxSteps := 10000000) (disch := first | assumption | omega) only [F_impl_InsOk, params, EG, EL, ↓reduceIte, Nat.reduceEqDiff, Nat.reduceAdd, Nat.reduceSub, Nat.reduceMul, Nat.reduceLeDiff, Nat.reduceLT, Int.reduceLT, Int.reduceLE, Int.reduceEq, Int.reduceToNat, reduceCtorEq, FB, ED, cx_impl_InsOk, cl_impl_within, sem_impl_within,  h1, decide_true, decide_false, Bool.not_true, Bool.not_false]
def valOk (n : Int) : Bool := decide (-1000000 ≤ n ∧ n ≤ 1000000)
def bitF (b : Bool) : Int := if b = true then 1 else 0
def dOp (w : Int) : Int := w.fdiv (2 ^ 28)
def s25 (w : Int) : Int := w.fdiv (2 ^ 25)
def s22 (w : Int) : Int := w.fdiv (2 ^ 22)
def dA (w : Int) : Int := IntKind.wrap .i64 (BitVec.ofInt 64 (s25 w) &&& BitVec.ofInt 64 7).toNat
def dB (w : Int) : Int := IntKind.wrap .i64 (BitVec.ofInt 64 (s22 w) &&& BitVec.ofInt 64 7).toNat
def dC (w : Int) : Int := IntKind.wrap .i64 (BitVec.ofInt 64 w &&& BitVec.ofInt 64 4194303).toNat
theorem b28 {w : Int} : bin .shr (.int .i64 w) (.int .u64 28) = some (.int .i64 (dOp w)) := rfl
theorem b25 {w : Int} : bin .shr (.int .i64 w) (.int .u64 25) = some (.int .i64 (s25 w)) := rfl
theorem b22 {w : Int} : bin .shr (.int .i64 w) (.int .u64 22) = some (.int .i64 (s22 w)) := rfl
theorem bA {w : Int} : bin .and (.int .i64 (s25 w)) (.int .i64 7) = some (.int .i64 (dA w)) := rfl
theorem bB {w : Int} : bin .and (.int .i64 (s22 w)) (.int .i64 7) = some (.int .i64 (dB w)) := rfl
theorem bC {w : Int} : bin .and (.int .i64 w) (.int .i64 4194303) = some (.int .i64 (dC w)) := rfl
theorem valOk_zero : valOk 0 = true := by decide
theorem big_op {w : Int} (h : ¬ w ≤ 8589934592) : insOk (dOp w) (dA w) (dB w) (dC w) = false := by
  apply insOk_no
  have : 11 ≤ dOp w := by unfold dOp; rw [Int.fdiv_eq_ediv_of_nonneg _ (by decide)]; omega
  omega
def decOk (w : Int) : Bool := decide (0 ≤ w) && insOk (dOp w) (dA w) (dB w) (dC w)
def decR (w : Int) : AV := if decOk w = true then .tup [.agg [.int .i64 (dOp w), .int .i64 (dA w), .int .i64 (dB w), .int .i64 (dC w)], .bool true] else .tup [.agg [.int .i64 0, .int .i64 0, .int .i64 0, .int .i64 0], .bool false]
def calcN (op a b : Int) : Int := if op = 1 then IntKind.wrap .i64 (a + b) else if op = 2 then IntKind.wrap .i64 (a - b) else if op = 3 then IntKind.wrap .i64 (a * b) else if op = 4 then IntKind.wrap .i64 (a.tdiv b) else if op = 5 then a.tmod b else if op = 6 then bitF (decide (a < b)) else if op = 7 then bitF (decide (a = b)) else if op = 8 then bitF (!decide (a = 0) && !decide (b = 0)) else bitF (!decide (a = 0) || !decide (b = 0))
def calcF (op a b : Int) : Int × Int := if valOk a = true ∧ valOk b = true ∧ 1 ≤ op ∧ op ≤ 9 then (if b = 0 ∧ (op = 4 ∨ op = 5) then (0, 2) else if valOk (calcN op a b) = true then (calcN op a b, 0) else (0, 1)) else (0, 1)
def negF (a : Int) : Int × Int := if valOk a = true then (IntKind.wrap .i64 (0 - a), 0) else (0, 1)
def coreOkF (c : DCore) : Bool := c.Regs.all valOk && (decide (c.Regs.length = 8) && (decide (0 ≤ c.Pc) && decide (-1 ≤ c.Process ∧ c.Process ≤ 3)))
theorem sem_spec_Decode (w : Int) : S_spec_Decode.sem [.int .i64 w] = some (decR w, []) := by
  rw [sg_spec_Decode, sem_go]
  cases h2 : insOk (dOp w) (dA w) (dB w) (dC w) <;> by_cases h0 : 0 ≤ w <;> by_cases h1 : w ≤ 8589934592
  all_goals first | exact absurd (h2.symm.trans (big_op h1)) (by decide) | skip
  all_goals first | (have h0' : ¬ w < 0 := by omega) | (have h0' : w < 0 := by omega)
  all_goals simp (maxSteps := 10000000) (disch := first | assumption | omega) only [F_spec_Decode, params, EG, EL, ↓reduceIte, Nat.reduceEqDiff, Nat.reduceAdd, Nat.reduceSub, Nat.reduceMul, Nat.reduceLeDiff, Nat.reduceLT, Int.reduceLT, Int.reduceLE, Int.reduceEq, Int.reduceToNat, reduceCtorEq, FB, ED, FT, cx_spec_Decode, cl_spec_l01In, sem_spec_l01In, cl_spec_InsOk, sem_spec_InsOk, b28, b25, b22, bA, bB, bC, decR, decOk, h0, h0', h1, h2, and_self, and_true, true_and, and_false, false_and, decide_true, decide_false, Bool.true_and, Bool.false_and, Bool.not_true, Bool.not_false]
theorem sem_impl_Decode (w : Int) : S_impl_Decode.sem [.int .i64 w] = some (decR w, []) := by
  rw [sg_impl_Decode, sem_go]
  cases h2 : insOk (dOp w) (dA w) (dB w) (dC w) <;> by_cases h0 : 0 ≤ w <;> by_cases h1 : w ≤ 8589934592
  all_goals first | exact absurd (h2.symm.trans (big_op h1)) (by decide) | skip
  all_goals first | (have h0' : ¬ w < 0 := by omega) | (have h0' : w < 0 := by omega)
  all_goals simp (maxSteps := 10000000) (disch := first | assumption | omega) only [F_impl_Decode, params, EG, EL, ↓reduceIte, Nat.reduceEqDiff, Nat.reduceAdd, Nat.reduceSub, Nat.reduceMul, Nat.reduceLeDiff, Nat.reduceLT, Int.reduceLT, Int.reduceLE, Int.reduceEq, Int.reduceToNat, reduceCtorEq, FB, ED, FT, cx_impl_Decode, cl_impl_within, sem_impl_within, cl_impl_InsOk, sem_impl_InsOk, b28, b25, b22, bA, bB, bC, decR, decOk, h0, h0', h1, h2, and_self, and_true, true_and, and_false, false_and, decide_true, decide_false, Bool.true_and, Bool.false_and, Bool.not_true, Bool.not_false]
theorem any_valOk {xs : List Int} : (xs.any fun n => !valOk n) = !(xs.all valOk) := by
  induction xs with
  | nil => rfl
  | cons y ys ih => cases h : valOk y <;> simp [ih, h]
def wordR (t : List Int) (pc : Int) : AV := if 0 ≤ pc ∧ pc ≤ (t.length : Int) - 1 then decR (t.getD pc.toNat 0) else .tup [.agg [.int .i64 0, .int .i64 0, .int .i64 0, .int .i64 0], .bool false]
def memF (op : Int) : Bool := decide (op = 2) || (decide (op = 3) || decide (op = 9))
theorem sem_impl_usesMem (op a b c : Int) : S_impl_usesMem.sem [.agg [.int .i64 op, .int .i64 a, .int .i64 b, .int .i64 c]] = some (.bool (memF op), []) := by
  rw [sg_impl_usesMem, sem_go]
  by_cases h2 : op = 2 <;> by_cases h3 : op = 3 <;> simp (maxSteps := 10000000) (disch := first | assumption | omega) only [F_impl_usesMem, params, EG, EL, ↓reduceIte, Nat.reduceEqDiff, Nat.reduceAdd, Nat.reduceSub, Nat.reduceMul, Nat.reduceLeDiff, Nat.reduceLT, Int.reduceLT, Int.reduceLE, Int.reduceEq, Int.reduceToNat, reduceCtorEq, FB, ED, cx_impl_usesMem, memF, h2, h3, decide_true, decide_false, Bool.not_true, Bool.not_false, Bool.true_and, Bool.false_and, Bool.and_true, Bool.and_false, Bool.true_or, Bool.false_or]
def stepG (x : DCore) (m : List Int) (op : Int) (a b c : Nat) : DCore × List Int × Int :=
  if op = 2 ∨ op = 3 ∨ op = 9 then
    if m.length ≤ c then (x, m, 4)
    else if op = 3 then ({ x with Pc := IntKind.wrap .i64 (x.Pc + 1) }, m.set c (x.Regs.getD a 0), 0)
    else if valOk (m.getD c 0) = true then ({ x with Regs := x.Regs.set a (m.getD c 0), Pc := IntKind.wrap .i64 (x.Pc + 1) }, if op = 9 then m.set c 1 else m, 0)
    else (x, m, 4)
  else if op = 7 then ({ x with Pc := if x.Regs.getD a 0 = 0 then (c : Int) else IntKind.wrap .i64 (x.Pc + 1) }, m, 0)
  else if op = 8 then ({ x with Pc := (c : Int) }, m, 0)
  else if op = 10 then ({ x with Pc := IntKind.wrap .i64 (x.Pc + 1) }, m, 10)
  else
    let r : Int × Int := if op = 1 then ((c : Int), 0) else if op = 4 then calcF c (x.Regs.getD a 0) (x.Regs.getD b 0) else if op = 5 then (bitF (decide (x.Regs.getD a 0 = 0)), 0) else negF (x.Regs.getD a 0)
    if r.2 = 0 then ({ x with Regs := x.Regs.set a r.1, Pc := IntKind.wrap .i64 (x.Pc + 1) }, m, 0) else (x, m, r.2)
def stepF (x : DCore) (t m : List Int) : DCore × List Int × Int :=
  if coreOkF x = true ∧ (0 ≤ x.Pc ∧ x.Pc ≤ (t.length : Int) - 1) ∧ decOk (t.getD x.Pc.toNat 0) = true then stepG x m (dOp (t.getD x.Pc.toNat 0)) (dA (t.getD x.Pc.toNat 0)).toNat (dB (t.getD x.Pc.toNat 0)).toNat (dC (t.getD x.Pc.toNat 0)).toNat else (x, m, 4)
theorem decOk_bounds {w : Int} (h : decOk w = true) : ∃ op : Int, ∃ a b c : Nat, dOp w = op ∧ dA w = (a : Int) ∧ dB w = (b : Int) ∧ dC w = (c : Int) ∧ (1 ≤ op ∧ op ≤ 10) ∧ a < 8 ∧ b < 8 ∧ c ≤ 4194303 := by
  simp only [decOk, insOk, Bool.and_eq_true, decide_eq_true_eq] at h
  exact ⟨dOp w, (dA w).toNat, (dB w).toNat, (dC w).toNat, rfl, by omega, by omega, by omega, by omega, by omega, by omega, by omega⟩
theorem coreOk_len {x : DCore} (h : coreOkF x = true) : x.Regs.length = 8 ∧ 0 ≤ x.Pc := by
  simp only [coreOkF, Bool.and_eq_true, decide_eq_true_eq] at h
  exact ⟨h.2.1, h.2.2.1⟩
theorem stepG_len {x : DCore} {m : List Int} {op : Int} {a b c : Nat} : (stepG x m op a b c).1.Regs.length = x.Regs.length ∧ (stepG x m op a b c).2.1.length = m.length := by
  unfold stepG
  dsimp only
  repeat' split
  all_goals first | exact ⟨rfl, rfl⟩ | (simp only [List.length_set]; exact ⟨rfl, rfl⟩) | simp
theorem stepF_regs {x : DCore} {t m : List Int} : (stepF x t m).1.Regs.length = x.Regs.length := by
  unfold stepF; split
  · exact stepG_len.1
  · rfl
theorem stepF_mem {x : DCore} {t m : List Int} : (stepF x t m).2.1.length = m.length := by
  unfold stepF; split
  · exact stepG_len.2
  · rfl
def nV (m : DMonitor) : Nat := m.Vars.length
def nP (q : DProcess) : Nat := q.Vars.length + 2
def pv (p : DProgram) (k : Nat) : Nat := match p.Processes[k]? with | some q => q.Vars.length | none => 0
theorem pv_eq {p : DProgram} {k : Nat} (h : k < p.Processes.length) : pv p k = p.Processes[k].Vars.length := by simp [pv, h]
def procIn (p : DProgram) (k : Int) : Prop := 0 ≤ k ∧ k ≤ (p.Processes.length : Int) - 1
instance (p : DProgram) (k : Int) : Decidable (procIn p k) := inferInstanceAs (Decidable (_ ∧ _))
def varAt (p : DProgram) (k i : Int) : Int := if (0 ≤ k ∧ k ≤ (p.Processes.length : Int) - 1) ∧ (0 ≤ i ∧ i ≤ (pv p k.toNat : Int)) then ((1 + tot nV p.Monitors + tot nP (p.Processes.take k.toNat) : Nat) : Int) + i else -1
theorem tot_drop {α : Type} {f : α → Nat} {xs : List α} {i : Nat} (h : i < xs.length) : tot f (xs.drop i) = f xs[i] + tot f (xs.drop (i + 1)) := by
  rw [List.drop_eq_getElem_cons h]; rfl
theorem totTake_le {α : Type} {f : α → Nat} : ∀ {xs : List α} {n : Nat}, tot f (xs.take n) ≤ tot f xs
  | [], n => by simp
  | x :: xs, 0 => by simp [tot]
  | x :: xs, n + 1 => by have := @totTake_le α f xs n; simp only [List.take_succ_cons, tot]; omega
theorem tot_mono {α : Type} {f g : α → Nat} (h : ∀ x, f x ≤ g x) : ∀ {xs : List α}, tot f xs ≤ tot g xs
  | [] => Nat.le_refl _
  | x :: xs => by have := @tot_mono _ _ _ h xs; have := h x; simp only [tot]; omega
theorem tot_nP : ∀ {xs : List DProcess}, tot nP xs ≤ tot wtProcess xs + 2 * xs.length
  | [] => Nat.le_refl _
  | x :: xs => by have := @tot_nP xs; simp only [tot, nP, wtProcess, List.length_cons]; omega
theorem tot_nV {xs : List DMonitor} : tot nV xs ≤ tot wtMonitor xs := tot_mono fun x => by unfold nV wtMonitor; omega
def atsF (p : DProgram) (k : Int) : List ByteArray → Nat → List Int
  | [], _ => []
  | _ :: r, i => varAt p k i :: atsF p k r (i + 1)
def varsOf (p : DProgram) (k : Nat) : List ByteArray := match p.Processes[k]? with | some q => q.Vars | none => []
theorem varsOf_eq {p : DProgram} {k : Nat} (h : k < p.Processes.length) : varsOf p k = p.Processes[k].Vars := by simp [varsOf, h]
def ownPlaces (p : DProgram) (k : Int) : DPlaces := if 0 ≤ k ∧ k ≤ (p.Processes.length : Int) - 1 then ⟨varsOf p k.toNat, atsF p k (varsOf p k.toNat) 0⟩ else ⟨[], []⟩
theorem atsF_len {p : DProgram} {k : Int} : ∀ {xs : List ByteArray} {i : Nat}, (atsF p k xs i).length = xs.length
  | [], _ => rfl
  | x :: xs, i => by simp only [atsF, List.length_cons, @atsF_len p k xs (i + 1)]
theorem ownPlaces_wt {p : DProgram} {k : Int} : wtPlaces (ownPlaces p k) ≤ 2 * tot wtProcess p.Processes := by
  unfold ownPlaces
  split
  · simp only [wtPlaces, atsF_len]
    unfold varsOf
    cases h : p.Processes[k.toNat]? with
    | none => simp [tot]
    | some q =>
      have := le_tot wtProcess (List.mem_of_getElem? h)
      simp only [wtProcess] at this
      simp only; omega
  · simp [wtPlaces, tot]
def mv (p : DProgram) (k : Nat) : Nat := match p.Monitors[k]? with | some q => q.Vars.length | none => 0
theorem mv_eq {p : DProgram} {k : Nat} (h : k < p.Monitors.length) : mv p k = p.Monitors[k].Vars.length := by simp [mv, h]
def sharedAt (p : DProgram) (k i : Int) : Int := if (0 ≤ k ∧ k ≤ (p.Monitors.length : Int) - 1) ∧ (0 ≤ i ∧ i ≤ (mv p k.toNat : Int) - 1) then ((1 + tot nV (p.Monitors.take k.toNat) : Nat) : Int) + i else -1
def argAt (p : DProgram) (k : Int) : Int := if 0 ≤ k ∧ k ≤ (p.Processes.length : Int) - 1 then varAt p k (pv p k.toNat) else -1
def resultAt (p : DProgram) (k : Int) : Int := if argAt p k < 0 then -1 else IntKind.wrap .i64 (argAt p k + 1)
theorem nV_lt {p : DProgram} {k : Nat} (h : k < p.Monitors.length) : p.Monitors[k].Vars.length + tot nV (p.Monitors.take k) ≤ tot nV p.Monitors := by
  have := @tot_take _ nV p.Monitors k h
  have : nV p.Monitors[k] = p.Monitors[k].Vars.length := rfl
  omega
def satsF (p : DProgram) (m : Int) : List ByteArray → Nat → List Int
  | [], _ => []
  | _ :: r, i => sharedAt p m i :: satsF p m r (i + 1)
def mvars (p : DProgram) (m : Nat) : List ByteArray := match p.Monitors[m]? with | some q => q.Vars | none => []
def ents (p : DProgram) (m : Nat) : List DEntry := match p.Monitors[m]? with | some q => q.Entries | none => []
def paramOf (p : DProgram) (m n : Nat) : ByteArray := match (ents p m)[n]? with | some q => q.Param | none => ⟨#[]⟩
theorem mvars_eq {p : DProgram} {m : Nat} (h : m < p.Monitors.length) : mvars p m = p.Monitors[m].Vars := by simp [mvars, h]
theorem ents_eq {p : DProgram} {m : Nat} (h : m < p.Monitors.length) : ents p m = p.Monitors[m].Entries := by simp [ents, h]
theorem param_eq {p : DProgram} {m n : Nat} (h : m < p.Monitors.length) (h2 : n < p.Monitors[m].Entries.length) : paramOf p m n = p.Monitors[m].Entries[n].Param := by
  unfold paramOf; rw [ents_eq h]; simp [h2]
def resB : ByteArray := ⟨#[114, 101, 115, 117, 108, 116]⟩
def entryPlaces (p : DProgram) (k m n : Int) : DPlaces :=
  if (0 ≤ k ∧ k ≤ (p.Processes.length : Int) - 1) ∧ (0 ≤ m ∧ m ≤ (p.Monitors.length : Int) - 1) ∧ (0 ≤ n ∧ n ≤ ((ents p m.toNat).length : Int) - 1) then ⟨[paramOf p m.toNat n.toNat, resB] ++ mvars p m.toNat, [argAt p k, resultAt p k] ++ satsF p m (mvars p m.toNat) 0⟩ else ⟨[], []⟩
theorem satsF_len {p : DProgram} {k : Int} : ∀ {xs : List ByteArray} {i : Nat}, (satsF p k xs i).length = xs.length
  | [], _ => rfl
  | x :: xs, i => by simp only [satsF, List.length_cons, @satsF_len p k xs (i + 1)]
theorem entryPlaces_wt {p : DProgram} {k m n : Int} : wtPlaces (entryPlaces p k m n) ≤ 3 * tot wtMonitor p.Monitors + 100 := by
  unfold entryPlaces
  split
  · simp only [wtPlaces, List.length_append, satsF_len, List.length_cons, List.length_nil, List.cons_append, List.nil_append, tot]
    have hr : wtS resB = 6 := rfl
    unfold paramOf mvars ents
    cases h : p.Monitors[m.toNat]? with
    | none => simp [tot, wtS] at *; omega
    | some q =>
      have h1 := le_tot wtMonitor (List.mem_of_getElem? h)
      simp only [wtMonitor] at h1
      simp only
      cases h2 : q.Entries[n.toNat]? with
      | none =>
        have : wtS (⟨#[]⟩ : ByteArray) = 0 := rfl
        simp only; omega
      | some e =>
        have h3 := le_tot wtEntry (List.mem_of_getElem? h2)
        simp only [wtEntry] at h3
        have : wtS e.Param = e.Param.size := rfl
        simp only; omega
  · simp [wtPlaces, tot]
theorem sh28 {x : Int} : bin .shl (.int .i64 x) (.int .u64 28) = some (.int .i64 (IntKind.wrap .i64 (x * 268435456))) := rfl
theorem sh25 {x : Int} : bin .shl (.int .i64 x) (.int .u64 25) = some (.int .i64 (IntKind.wrap .i64 (x * 33554432))) := rfl
theorem sh22 {x : Int} : bin .shl (.int .i64 x) (.int .u64 22) = some (.int .i64 (IntKind.wrap .i64 (x * 4194304))) := rfl
def encN (op a b c : Int) : Int := op * 268435456 + a * 33554432 + b * 4194304 + c
def encF (op a b c : Int) : Int := if insOk op a b c = true then encN op a b c else 0
theorem insOk_bd {op a b c : Int} (h : insOk op a b c = true) : (1 ≤ op ∧ op ≤ 10) ∧ (0 ≤ a ∧ a ≤ 7) ∧ (0 ≤ b ∧ b ≤ 7) ∧ (0 ≤ c ∧ c ≤ 4194303) := by
  unfold insOk at h
  have := of_decide_eq_true h
  exact ⟨this.1, this.2.1, this.2.2.1, this.2.2.2.1⟩
def touchF (t : List Int) (pc : Int) : Int := if (0 ≤ pc ∧ pc ≤ (t.length : Int) - 1) ∧ decOk (t.getD pc.toNat 0) = true ∧ memF (dOp (t.getD pc.toNat 0)) = true then dC (t.getD pc.toNat 0) else -1
theorem memF_cases {op : Int} : memF op = true ↔ op = 2 ∨ op = 3 ∨ op = 9 := by simp [memF]
theorem sem_spec_TouchOf (t : List Int) (pc : Int) (hl : t.length ≤ 1048576) : S_spec_TouchOf.sem [.tree 1 (t.map cI), .int .i64 pc] = some (.int .i64 (touchF t pc), []) := by
  have hw : IntKind.wrap .i64 ((t.length : Int) - 1) = (t.length : Int) - 1 := wrapI (by omega) (by omega)
  rw [sg_spec_TouchOf, sem_go]
  unfold touchF
  by_cases h : 0 ≤ pc ∧ pc ≤ (t.length : Int) - 1
  · obtain ⟨n, rfl⟩ : ∃ n : Nat, pc = (n : Int) := ⟨pc.toNat, by omega⟩
    have hn : n < t.length := by omega
    have hn' : (n : Int) < (t.length : Int) := by omega
    have hg : t.getD n 0 = t[n] := by simp [hn]
    cases hd : decOk t[n]
    · simp (maxSteps := 10000000) (disch := first | assumption | omega) only [F_spec_TouchOf, params, EG, EL, ↓reduceIte, Nat.reduceEqDiff, Nat.reduceAdd, Nat.reduceSub, Nat.reduceMul, Nat.reduceLeDiff, Nat.reduceLT, Int.reduceLT, Int.reduceLE, Int.reduceEq, Int.reduceToNat, reduceCtorEq, FB, ED, FT, cx_spec_TouchOf, cl_spec_l01In, sem_spec_l01In, cl_spec_Decode, sem_spec_Decode, decR, h, hw, hg, hd, getRow _ _ hn, hn, hn', decide_true, decide_false]
    · by_cases m2 : dOp t[n] = 2 <;> by_cases m3 : dOp t[n] = 3 <;> by_cases m9 : dOp t[n] = 9
      all_goals simp (maxSteps := 10000000) (disch := first | assumption | omega) only [F_spec_TouchOf, params, EG, EL, ↓reduceIte, Nat.reduceEqDiff, Nat.reduceAdd, Nat.reduceSub, Nat.reduceMul, Nat.reduceLeDiff, Nat.reduceLT, Int.reduceLT, Int.reduceLE, Int.reduceEq, Int.reduceToNat, reduceCtorEq, FB, ED, FT, cx_spec_TouchOf, cl_spec_l01In, sem_spec_l01In, cl_spec_Decode, sem_spec_Decode, decR, h, hw, hg, hd, getRow _ _ hn, hn, hn', memF, m2, m3, m9, decide_true, decide_false]
  · simp (maxSteps := 10000000) (disch := first | assumption | omega) only [F_spec_TouchOf, params, EG, EL, ↓reduceIte, Nat.reduceEqDiff, Nat.reduceAdd, Nat.reduceSub, Nat.reduceMul, Nat.reduceLeDiff, Nat.reduceLT, Int.reduceLT, Int.reduceLE, Int.reduceEq, Int.reduceToNat, reduceCtorEq, FB, ED, FT, cx_spec_TouchOf, cl_spec_l01In, sem_spec_l01In, h, hw, decide_true, decide_false]
/-! bytes and strings; numbers as bytes -/
def bsA (l : List UInt8) : ByteArray := ⟨l.toArray⟩
theorem bsA_nil : (⟨#[]⟩ : ByteArray) = bsA [] := rfl
theorem bsA_size {l : List UInt8} : (bsA l).size = l.length := by simp [bsA, ByteArray.size]
theorem bsA_app {a b : List UInt8} : bsA a ++ bsA b = bsA (a ++ b) := by
  apply ByteArray.ext
  simp [bsA]
theorem bsA_mk {l : List UInt8} : (⟨l.toArray⟩ : ByteArray) = bsA l := rfl
theorem bsA_inj {a b : List UInt8} : bsA a = bsA b ↔ a = b := by
  constructor
  · intro h
    have := congrArg (fun x : ByteArray => x.data.toList) h
    simpa [bsA] using this
  · intro h; rw [h]
theorem bytesOf_map : ∀ {l : List UInt8}, bytesOf (l.map cY) = some l
  | [] => rfl
  | b :: l => by
    simp only [List.map_cons, cY, bytesOf, bytesOf_map (l := l), Option.map_some]
    congr 1
    simp
theorem map_cY_snoc {xs : List UInt8} {v : Int} {b : UInt8} (h : v = (b.toNat : Int)) : xs.map cY ++ [[.int .u8 v]] = (xs ++ [b]).map cY := by rw [h]; exact snoc_cY
theorem wrap_u8 {k : Nat} (h : k < 256) : IntKind.wrap .u8 (k : Int) = ((UInt8.ofNat k).toNat : Int) := by
  have : (UInt8.ofNat k).toNat = k := by rw [UInt8.toNat_ofNat']; exact Nat.mod_eq_of_lt h
  rw [this]
  have e : ∀ j : Int, 0 ≤ j → j < 256 → IntKind.wrap .u8 j = j := by
    intro j h1 h2
    simp [IntKind.wrap, IntKind.signed, IntKind.bits]
    omega
  exact e _ (by omega) (by omega)
def varI (n : Nat) : List UInt8 := if h : 127 < n then UInt8.ofNat (n % 128 + 128) :: varI (n / 128) else []
termination_by n
decreasing_by omega
def varL (n : Nat) : Nat := if h : 127 < n then varL (n / 128) else n
termination_by n
decreasing_by omega
theorem varI_hi {n : Nat} (h : 127 < n) : varI n = UInt8.ofNat (n % 128 + 128) :: varI (n / 128) := by rw [varI, dif_pos h]
theorem varI_lo {n : Nat} (h : ¬ 127 < n) : varI n = [] := by rw [varI, dif_neg h]
theorem varL_hi {n : Nat} (h : 127 < n) : varL n = varL (n / 128) := by rw [varL, dif_pos h]
theorem varL_lo {n : Nat} (h : ¬ 127 < n) : varL n = n := by rw [varL, dif_neg h]
theorem varL_le (n : Nat) : varL n ≤ 127 := by
  induction n using Nat.strongRecOn with
  | ind n ih =>
    by_cases h : 127 < n
    · rw [varL_hi h]; exact ih _ (by omega)
    · rw [varL_lo h]; omega
theorem varI_len (n : Nat) : (varI n).length ≤ n := by
  induction n using Nat.strongRecOn with
  | ind n ih =>
    by_cases h : 127 < n
    · rw [varI_hi h, List.length_cons]
      have := ih (n / 128) (by omega)
      omega
    · rw [varI_lo h]; simp
theorem varI_len5 (n : Nat) (h : n ≤ 17179869184) : (varI n).length ≤ 4 := by
  by_cases h1 : 127 < n
  · rw [varI_hi h1]
    by_cases h2 : 127 < n / 128
    · rw [varI_hi h2]
      by_cases h3 : 127 < n / 128 / 128
      · rw [varI_hi h3]
        by_cases h4 : 127 < n / 128 / 128 / 128
        · rw [varI_hi h4]
          by_cases h5 : 127 < n / 128 / 128 / 128 / 128
          · omega
          · rw [varI_lo h5]; simp
        · rw [varI_lo h4]; simp
      · rw [varI_lo h3]; simp
    · rw [varI_lo h2]; simp
  · rw [varI_lo h1]; simp
def varN (n : Nat) : List UInt8 := varI n ++ [UInt8.ofNat (varL n)]
theorem varN_len (n : Nat) (h : n ≤ 17179869184) : (varN n).length ≤ 5 := by
  have := varI_len5 n h
  unfold varN
  simp only [List.length_append, List.length_singleton]; omega
theorem tmod_cast {n : Nat} : Int.tmod (n : Int) 128 = ((n % 128 : Nat) : Int) := by
  rw [Int.tmod_eq_emod_of_nonneg (by omega)]; omega
theorem tdiv_cast {n : Nat} : Int.tdiv (n : Int) 128 = ((n / 128 : Nat) : Int) := by
  rw [Int.tdiv_eq_ediv_of_nonneg (by omega)]; omega
theorem seg_snocY {xs : List UInt8} {b : UInt8} : seg ((xs ++ [b]).map cY) 0 (xs.length + 1) = (xs ++ [b]).map cY := by
  unfold seg
  rw [List.drop_zero, List.take_of_length_le (by simp)]
theorem byte_hi {n : Nat} : IntKind.wrap .u8 (IntKind.wrap .i64 (Int.tmod (n : Int) 128 + 128)) = ((UInt8.ofNat (n % 128 + 128)).toNat : Int) := by
  rw [tmod_cast, wrapI (by omega) (by omega)]
  have : ((n % 128 : Nat) : Int) + 128 = ((n % 128 + 128 : Nat) : Int) := by omega
  rw [this]
  exact wrap_u8 (by omega)
theorem loop_l01Var (n : Nat) : ∀ (out : List UInt8), n + out.length ≤ 1099511627776 → loopV X_spec_l01Var 0 [0, 3] [(1, [0, 3])] B0_spec_l01Var ⟨[(0, .int .i64 (n : Int)), (3, .sl ⟨0, none, 0⟩ 1 0 out.length)], [some ⟨false, 0, 1, out.map cY⟩]⟩ = some (.exit 0, ⟨[(0, .int .i64 (varL n : Int)), (3, .sl ⟨0, none, 0⟩ 1 0 (out ++ varI n).length)], [some ⟨false, 0, 1, (out ++ varI n).map cY⟩]⟩) := by
  induction n using Nat.strongRecOn with
  | ind n ih =>
    intro out ho
    rw [loopV_by B0_spec_l01Var.eq_1]
    by_cases h : 127 < n
    · have h' : (127 : Int) < (n : Int) := by omega
      have hc : (out.length + 1) * 1 ≤ 70368744177664 := by omega
      have hc' : out.length + 1 ≤ 70368744177664 := by omega
      have i1 := ih (n / 128) (by omega) (out ++ [UInt8.ofNat (n % 128 + 128)]) (by simp only [List.length_append, List.length_singleton]; omega)
      simp only [EG, EL, ↓reduceIte, Nat.reduceEqDiff, Nat.reduceAdd, Nat.reduceSub, Nat.reduceMul, Nat.reduceLeDiff, Nat.reduceLT, Int.reduceLT, Int.reduceLE, Int.reduceEq, Int.reduceToNat, reduceCtorEq, FB, List.append_assoc] at i1
      have hq : IntKind.wrap .i64 ((n / 128 : Nat) : Int) = ((n / 128 : Nat) : Int) := wrapI (by omega) (by omega)
      simp (maxSteps := 10000000) (disch := first | assumption | omega) only [EG, EL, ↓reduceIte, Nat.reduceEqDiff, Nat.reduceAdd, Nat.reduceSub, Nat.reduceMul, Nat.reduceLeDiff, Nat.reduceLT, Int.reduceLT, Int.reduceLE, Int.reduceEq, Int.reduceToNat, reduceCtorEq, FB, ED, FT, cx_spec_l01Var, h', gt_iff_lt, byte_hi, map_cY_snoc rfl, tdiv_cast, hq, hc, hc', Nat.mul_one, i1, varI_hi h, varL_hi h, List.append_assoc]
    · have h' : ¬ (127 : Int) < (n : Int) := by omega
      simp (maxSteps := 10000000) (disch := first | assumption | omega) only [EG, EL, ↓reduceIte, Nat.reduceEqDiff, Nat.reduceAdd, Nat.reduceSub, Nat.reduceMul, Nat.reduceLeDiff, Nat.reduceLT, Int.reduceLT, Int.reduceLE, Int.reduceEq, Int.reduceToNat, reduceCtorEq, FB, ED, FT, cx_spec_l01Var, h', gt_iff_lt, varI_lo h, varL_lo h]
theorem sem_spec_l01Var (n : Nat) (hn : n ≤ 17179869184) : S_spec_l01Var.sem [.int .i64 (n : Int)] = some (.str (bsA (varN n)), []) := by
  have l := loop_l01Var n [] (by simp; omega)
  simp only [List.map_nil, List.length_nil, List.nil_append] at l
  have h5 := varI_len5 n hn
  have hl := varL_le n
  have hb := wrap_u8 (k := varL n) (by omega)
  have hc : (varI n).length + 1 ≤ 70368744177664 := by omega
  rw [sg_spec_l01Var, sem_go]
  simp (maxSteps := 10000000) (disch := first | assumption | omega) only [F_spec_l01Var, params, EG, EL, ↓reduceIte, Nat.reduceEqDiff, Nat.reduceAdd, Nat.reduceSub, Nat.reduceMul, Nat.reduceLeDiff, Nat.reduceLT, Int.reduceLT, Int.reduceLE, Int.reduceEq, Int.reduceToNat, reduceCtorEq, FB, ED, FT, cx_spec_l01Var, l, hb, map_cY_snoc rfl, hc, Nat.mul_one, bytesOf_map, seg_snocY, varN, bsA_mk]
theorem loop_VarText (n : Nat) : ∀ (out : List UInt8), n + out.length ≤ 1099511627776 → loopV X_impl_VarText 0 [0, 4] [(1, [0, 4])] B0_impl_VarText ⟨[(0, .int .i64 (n : Int)), (4, .sl ⟨0, none, 0⟩ 1 0 out.length)], [some ⟨false, 0, 1, out.map cY⟩]⟩ = some (.exit 0, ⟨[(0, .int .i64 (varL n : Int)), (4, .sl ⟨0, none, 0⟩ 1 0 (out ++ varI n).length)], [some ⟨false, 0, 1, (out ++ varI n).map cY⟩]⟩) := by
  induction n using Nat.strongRecOn with
  | ind n ih =>
    intro out ho
    rw [loopV_by B0_impl_VarText.eq_1]
    by_cases h : 127 < n
    · have h' : (127 : Int) < (n : Int) := by omega
      have hc' : out.length + 1 ≤ 70368744177664 := by omega
      have i1 := ih (n / 128) (by omega) (out ++ [UInt8.ofNat (n % 128 + 128)]) (by simp only [List.length_append, List.length_singleton]; omega)
      simp only [EG, EL, ↓reduceIte, Nat.reduceEqDiff, Nat.reduceAdd, Nat.reduceSub, Nat.reduceMul, Nat.reduceLeDiff, Nat.reduceLT, Int.reduceLT, Int.reduceLE, Int.reduceEq, Int.reduceToNat, reduceCtorEq, FB, List.append_assoc] at i1
      have hq : IntKind.wrap .i64 ((n / 128 : Nat) : Int) = ((n / 128 : Nat) : Int) := wrapI (by omega) (by omega)
      simp (maxSteps := 10000000) (disch := first | assumption | omega) only [EG, EL, ↓reduceIte, Nat.reduceEqDiff, Nat.reduceAdd, Nat.reduceSub, Nat.reduceMul, Nat.reduceLeDiff, Nat.reduceLT, Int.reduceLT, Int.reduceLE, Int.reduceEq, Int.reduceToNat, reduceCtorEq, FB, ED, FT, cx_impl_VarText, h', gt_iff_lt, byte_hi, map_cY_snoc rfl, tdiv_cast, hq, hc', Nat.mul_one, i1, varI_hi h, varL_hi h, List.append_assoc]
    · have h' : ¬ (127 : Int) < (n : Int) := by omega
      simp (maxSteps := 10000000) (disch := first | assumption | omega) only [EG, EL, ↓reduceIte, Nat.reduceEqDiff, Nat.reduceAdd, Nat.reduceSub, Nat.reduceMul, Nat.reduceLeDiff, Nat.reduceLT, Int.reduceLT, Int.reduceLE, Int.reduceEq, Int.reduceToNat, reduceCtorEq, FB, ED, FT, cx_impl_VarText, h', gt_iff_lt, varI_lo h, varL_lo h]
theorem sem_impl_VarText (n : Nat) (hn : n ≤ 1000000000) : S_impl_VarText.sem [.int .i64 (n : Int)] = some (.tup [.str (bsA (varN n)), .bool true], []) := by
  have l := loop_VarText n [] (by simp; omega)
  simp only [List.map_nil, List.length_nil, List.nil_append] at l
  have h5 := varI_len5 n (by omega)
  have hl := varL_le n
  have hb := wrap_u8 (k := varL n) (by omega)
  have hc : (varI n).length + 1 ≤ 70368744177664 := by omega
  have h0 : (0 : Int) ≤ (n : Int) ∧ (n : Int) ≤ 1000000000 := by omega
  rw [sg_impl_VarText, sem_go]
  simp (maxSteps := 10000000) (disch := first | assumption | omega) only [F_impl_VarText, params, EG, EL, ↓reduceIte, Nat.reduceEqDiff, Nat.reduceAdd, Nat.reduceSub, Nat.reduceMul, Nat.reduceLeDiff, Nat.reduceLT, Int.reduceLT, Int.reduceLE, Int.reduceEq, Int.reduceToNat, reduceCtorEq, FB, ED, FT, cx_impl_VarText, cl_impl_within, sem_impl_within, h0, decide_true, l, hb, map_cY_snoc rfl, hc, Nat.mul_one, bytesOf_map, seg_snocY, varN, bsA_mk]
def xor32 (x y : Int) : Int := IntKind.wrap .u32 (BitVec.ofInt 32 x ^^^ BitVec.ofInt 32 y).toNat
theorem bxor32 {x y : Int} : bin .xor (.int .u32 x) (.int .u32 y) = some (.int .u32 (xor32 x y)) := rfl
def roundF (s : Int) : Int := if s.tmod 2 = 1 then xor32 (IntKind.wrap .u32 (s.tdiv 2)) 3558460437 else IntKind.wrap .u32 (s.tdiv 2)
def roundsF : List Unit → Int → Int
  | [], s => s
  | _ :: r, s => roundsF r (roundF s)
def sumF : List UInt8 → Int → Int
  | [], s => s
  | b :: r, s => sumF r (roundsF (List.replicate 8 ()) (xor32 s (IntKind.wrap .u32 (b.toNat : Int))))
def h24 (x : Int) : Int := x.fdiv (2 ^ 24)
def h16 (x : Int) : Int := x.fdiv (2 ^ 16)
def h8 (x : Int) : Int := x.fdiv (2 ^ 8)
theorem bh24 {x : Int} : bin .shr (.int .u32 x) (.int .u64 24) = some (.int .u32 (h24 x)) := rfl
theorem bh16 {x : Int} : bin .shr (.int .u32 x) (.int .u64 16) = some (.int .u32 (h16 x)) := rfl
theorem bh8 {x : Int} : bin .shr (.int .u32 x) (.int .u64 8) = some (.int .u32 (h8 x)) := rfl
def fourF (x : Int) : List UInt8 := [UInt8.ofNat (IntKind.wrap .u8 (h24 x)).toNat, UInt8.ofNat (IntKind.wrap .u8 (h16 x)).toNat, UInt8.ofNat (IntKind.wrap .u8 (h8 x)).toNat, UInt8.ofNat (IntKind.wrap .u8 x).toNat]
theorem seg_four {a b c d : List AV} : seg [a, b, c, d] 0 4 = [a, b, c, d] := rfl
theorem bsA_get {l : List UInt8} {i : Nat} (h : i < l.length) : (bsA l).data.getD i 0 = l[i] := by
  simp [bsA, Array.getD_eq_getD_getElem?, h]
def sealF (l : List UInt8) : List UInt8 × Bool := if 20000 < l.length then ([], false) else (l ++ fourF (sumF l 4294967295), true)
theorem inner_spec (l : List UInt8) (i : Nat) (xs : List Unit) (hxs : xs.length = 8) (s0 : Int) : loopV X_spec_SumMore 0 [0, 1, 5, 6] [(3, [0, 1, 5])] B1_spec_SumMore ⟨[(0, .int .u32 s0), (1, .str (bsA l)), (5, .int .i64 (i : Int)), (6, .int .i64 0)], []⟩ = some (.exit 2, ⟨[(0, .int .u32 (roundsF xs s0)), (1, .str (bsA l)), (5, .int .i64 (i : Int))], []⟩) := by
  refine loop_list xs (fun _ (_ : Int) => True) (fun k s => ⟨[(0, .int .u32 s), (1, .str (bsA l)), (5, .int .i64 (i : Int)), (6, .int .i64 ((k : Nat) : Int))], []⟩) (fun rest s => some (.exit 2, ⟨[(0, .int .u32 (roundsF rest s)), (1, .str (bsA l)), (5, .int .i64 (i : Int))], []⟩)) ?_ ?_ s0 trivial
  · rintro s _
    have h8 : ((xs.length : Nat) : Int) = 8 := by omega
    rw [loopV_by B1_spec_SumMore.eq_1]
    simp (maxSteps := 10000000) (disch := first | assumption | omega) only [EG, EL, ↓reduceIte, Nat.reduceEqDiff, Nat.reduceAdd, Nat.reduceSub, Nat.reduceMul, Nat.reduceLeDiff, Nat.reduceLT, Int.reduceLT, Int.reduceLE, Int.reduceEq, Int.reduceToNat, reduceCtorEq, FB, ED, FT, cx_spec_SumMore, h8, roundsF]
  · rintro k hk y rest s rfl rfl _ ih
    have h8 : (k : Int) < 8 := by omega
    have i1 := ih (roundF s) trivial
    rw [loopV_by B1_spec_SumMore.eq_1]
    unfold roundF at i1
    by_cases h : s.tmod 2 = 1
    all_goals simp only [h, if_true, if_false] at i1
    all_goals simp (maxSteps := 10000000) (disch := first | assumption | omega) only [EG, EL, ↓reduceIte, Nat.reduceEqDiff, Nat.reduceAdd, Nat.reduceSub, Nat.reduceMul, Nat.reduceLeDiff, Nat.reduceLT, Int.reduceLT, Int.reduceLE, Int.reduceEq, Int.reduceToNat, reduceCtorEq, FB, ED, FT, cx_spec_SumMore, h8, h, decide_true, decide_false, bxor32, wrap_succ, roundsF, roundF, i1]
theorem sem_spec_SumMore (l : List UInt8) (hl : l.length ≤ 140737488351232) (s0 : Int) : S_spec_SumMore.sem [.int .u32 s0, .str (bsA l)] = some (.int .u32 (sumF l s0), []) := by
  have loop : loopV X_spec_SumMore 0 [0, 1, 5] [(1, [0])] B0_spec_SumMore ⟨[(0, .int .u32 s0), (1, .str (bsA l)), (5, .int .i64 0)], []⟩ = some (.exit 0, ⟨[(0, .int .u32 (sumF l s0))], []⟩) := by
    refine loop_list l (fun _ (_ : Int) => True) (fun i s => ⟨[(0, .int .u32 s), (1, .str (bsA l)), (5, .int .i64 ((i : Nat) : Int))], []⟩) (fun rest s => some (.exit 0, ⟨[(0, .int .u32 (sumF rest s))], []⟩)) ?_ ?_ s0 trivial
    · rintro s _
      rw [loopV_by B0_spec_SumMore.eq_1]
      simp (maxSteps := 10000000) (disch := first | assumption | omega) only [EG, EL, ↓reduceIte, Nat.reduceEqDiff, Nat.reduceAdd, Nat.reduceSub, Nat.reduceMul, Nat.reduceLeDiff, Nat.reduceLT, Int.reduceLT, Int.reduceLE, Int.reduceEq, Int.reduceToNat, reduceCtorEq, FB, ED, FT, cx_spec_SumMore, bsA_size, int_lt_irrefl, sumF]
    · rintro i hi0 y rest s rfl rfl _ ih
      have hi : (i : Int) < (l.length : Int) := by omega
      have hg := bsA_get hi0
      have i1 := ih (roundsF (List.replicate 8 ()) (xor32 s (IntKind.wrap .u32 (l[i].toNat : Int)))) trivial
      have i2 := fun s => inner_spec l i (List.replicate 8 ()) (by simp) s
      rw [loopV_by B0_spec_SumMore.eq_1]
      simp (maxSteps := 10000000) (disch := first | assumption | omega) only [EG, EL, ↓reduceIte, Nat.reduceEqDiff, Nat.reduceAdd, Nat.reduceSub, Nat.reduceMul, Nat.reduceLeDiff, Nat.reduceLT, Int.reduceLT, Int.reduceLE, Int.reduceEq, Int.reduceToNat, reduceCtorEq, FB, ED, FT, cx_spec_SumMore, bsA_size, hi, hg, bxor32, wrap_succ, i2, sumF, i1]
  rw [sg_spec_SumMore, sem_go]
  simp (maxSteps := 10000000) (disch := first | assumption | omega) only [F_spec_SumMore, params, EG, EL, ↓reduceIte, Nat.reduceEqDiff, Nat.reduceAdd, Nat.reduceSub, Nat.reduceMul, Nat.reduceLeDiff, Nat.reduceLT, Int.reduceLT, Int.reduceLE, Int.reduceEq, Int.reduceToNat, reduceCtorEq, FB, ED, FT, cx_spec_SumMore, loop]
theorem sem_spec_SumOf (l : List UInt8) (hl : l.length ≤ 140737488351232) : S_spec_SumOf.sem [.str (bsA l)] = some (.int .u32 (sumF l 4294967295), []) := by
  rw [sg_spec_SumOf, sem_go]
  simp (maxSteps := 10000000) (disch := first | assumption | omega) only [F_spec_SumOf, params, EG, EL, ↓reduceIte, Nat.reduceEqDiff, Nat.reduceAdd, Nat.reduceSub, Nat.reduceMul, Nat.reduceLeDiff, Nat.reduceLT, Int.reduceLT, Int.reduceLE, Int.reduceEq, Int.reduceToNat, reduceCtorEq, FB, ED, FT, cx_spec_SumOf, cl_spec_SumMore, sem_spec_SumMore]
theorem inner_impl (l : List UInt8) (i : Nat) (xs : List Unit) (hxs : xs.length = 8) (s0 : Int) : loopV X_impl_SumMore 0 [0, 1, 5, 6] [(3, [0, 1, 5])] B1_impl_SumMore ⟨[(0, .int .u32 s0), (1, .str (bsA l)), (5, .int .i64 (i : Int)), (6, .int .i64 0)], []⟩ = some (.exit 2, ⟨[(0, .int .u32 (roundsF xs s0)), (1, .str (bsA l)), (5, .int .i64 (i : Int))], []⟩) := by
  refine loop_list xs (fun _ (_ : Int) => True) (fun k s => ⟨[(0, .int .u32 s), (1, .str (bsA l)), (5, .int .i64 (i : Int)), (6, .int .i64 ((k : Nat) : Int))], []⟩) (fun rest s => some (.exit 2, ⟨[(0, .int .u32 (roundsF rest s)), (1, .str (bsA l)), (5, .int .i64 (i : Int))], []⟩)) ?_ ?_ s0 trivial
  · rintro s _
    have h8 : ((xs.length : Nat) : Int) = 8 := by omega
    rw [loopV_by B1_impl_SumMore.eq_1]
    simp (maxSteps := 10000000) (disch := first | assumption | omega) only [EG, EL, ↓reduceIte, Nat.reduceEqDiff, Nat.reduceAdd, Nat.reduceSub, Nat.reduceMul, Nat.reduceLeDiff, Nat.reduceLT, Int.reduceLT, Int.reduceLE, Int.reduceEq, Int.reduceToNat, reduceCtorEq, FB, ED, FT, cx_impl_SumMore, h8, roundsF]
  · rintro k hk y rest s rfl rfl _ ih
    have h8 : (k : Int) < 8 := by omega
    have i1 := ih (roundF s) trivial
    rw [loopV_by B1_impl_SumMore.eq_1]
    unfold roundF at i1
    by_cases h : s.tmod 2 = 1
    all_goals simp only [h, if_true, if_false] at i1
    all_goals simp (maxSteps := 10000000) (disch := first | assumption | omega) only [EG, EL, ↓reduceIte, Nat.reduceEqDiff, Nat.reduceAdd, Nat.reduceSub, Nat.reduceMul, Nat.reduceLeDiff, Nat.reduceLT, Int.reduceLT, Int.reduceLE, Int.reduceEq, Int.reduceToNat, reduceCtorEq, FB, ED, FT, cx_impl_SumMore, h8, h, decide_true, decide_false, bxor32, wrap_succ, roundsF, roundF, i1]
theorem sem_impl_SumMore (l : List UInt8) (hl : l.length ≤ 140737488351232) (s0 : Int) : S_impl_SumMore.sem [.int .u32 s0, .str (bsA l)] = some (.int .u32 (sumF l s0), []) := by
  have loop : loopV X_impl_SumMore 0 [0, 1, 5] [(1, [0])] B0_impl_SumMore ⟨[(0, .int .u32 s0), (1, .str (bsA l)), (5, .int .i64 0)], []⟩ = some (.exit 0, ⟨[(0, .int .u32 (sumF l s0))], []⟩) := by
    refine loop_list l (fun _ (_ : Int) => True) (fun i s => ⟨[(0, .int .u32 s), (1, .str (bsA l)), (5, .int .i64 ((i : Nat) : Int))], []⟩) (fun rest s => some (.exit 0, ⟨[(0, .int .u32 (sumF rest s))], []⟩)) ?_ ?_ s0 trivial
    · rintro s _
      rw [loopV_by B0_impl_SumMore.eq_1]
      simp (maxSteps := 10000000) (disch := first | assumption | omega) only [EG, EL, ↓reduceIte, Nat.reduceEqDiff, Nat.reduceAdd, Nat.reduceSub, Nat.reduceMul, Nat.reduceLeDiff, Nat.reduceLT, Int.reduceLT, Int.reduceLE, Int.reduceEq, Int.reduceToNat, reduceCtorEq, FB, ED, FT, cx_impl_SumMore, bsA_size, int_lt_irrefl, sumF]
    · rintro i hi0 y rest s rfl rfl _ ih
      have hi : (i : Int) < (l.length : Int) := by omega
      have hg := bsA_get hi0
      have i1 := ih (roundsF (List.replicate 8 ()) (xor32 s (IntKind.wrap .u32 (l[i].toNat : Int)))) trivial
      have i2 := fun s => inner_impl l i (List.replicate 8 ()) (by simp) s
      rw [loopV_by B0_impl_SumMore.eq_1]
      simp (maxSteps := 10000000) (disch := first | assumption | omega) only [EG, EL, ↓reduceIte, Nat.reduceEqDiff, Nat.reduceAdd, Nat.reduceSub, Nat.reduceMul, Nat.reduceLeDiff, Nat.reduceLT, Int.reduceLT, Int.reduceLE, Int.reduceEq, Int.reduceToNat, reduceCtorEq, FB, ED, FT, cx_impl_SumMore, bsA_size, hi, hg, bxor32, wrap_succ, i2, sumF, i1]
  rw [sg_impl_SumMore, sem_go]
  simp (maxSteps := 10000000) (disch := first | assumption | omega) only [F_impl_SumMore, params, EG, EL, ↓reduceIte, Nat.reduceEqDiff, Nat.reduceAdd, Nat.reduceSub, Nat.reduceMul, Nat.reduceLeDiff, Nat.reduceLT, Int.reduceLT, Int.reduceLE, Int.reduceEq, Int.reduceToNat, reduceCtorEq, FB, ED, FT, cx_impl_SumMore, loop]
theorem sem_impl_SumOf (l : List UInt8) (hl : l.length ≤ 140737488351232) : S_impl_SumOf.sem [.str (bsA l)] = some (.int .u32 (sumF l 4294967295), []) := by
  rw [sg_impl_SumOf, sem_go]
  simp (maxSteps := 10000000) (disch := first | assumption | omega) only [F_impl_SumOf, params, EG, EL, ↓reduceIte, Nat.reduceEqDiff, Nat.reduceAdd, Nat.reduceSub, Nat.reduceMul, Nat.reduceLeDiff, Nat.reduceLT, Int.reduceLT, Int.reduceLE, Int.reduceEq, Int.reduceToNat, reduceCtorEq, FB, ED, FT, cx_impl_SumOf, cl_impl_SumMore, sem_impl_SumMore]
theorem sem_spec_l02Four (x : Int) : S_spec_l02Four.sem [.int .u32 x] = some (.str (bsA (fourF x)), []) := by
  rw [sg_spec_l02Four, sem_go]
  simp (maxSteps := 10000000) (disch := first | assumption | omega) only [F_spec_l02Four, params, EG, EL, ↓reduceIte, Nat.reduceEqDiff, Nat.reduceAdd, Nat.reduceSub, Nat.reduceMul, Nat.reduceLeDiff, Nat.reduceLT, Int.reduceLT, Int.reduceLE, Int.reduceEq, Int.reduceToNat, reduceCtorEq, FB, ED, FT, cx_spec_l02Four, bh24, bh16, bh8, seg_four, bsA_mk, fourF]
theorem sem_spec_Sealed (l : List UInt8) (hl : l.length ≤ 140737488351232) : S_spec_Sealed.sem [.str (bsA l)] = some (.tup [.str (bsA (sealF l).1), .bool (sealF l).2], []) := by
  rw [sg_spec_Sealed, sem_go]
  unfold sealF
  by_cases h : 20000 < l.length
  · have h' : (20000 : Int) < (l.length : Int) := by omega
    simp (maxSteps := 10000000) (disch := first | assumption | omega) only [F_spec_Sealed, params, EG, EL, ↓reduceIte, Nat.reduceEqDiff, Nat.reduceAdd, Nat.reduceSub, Nat.reduceMul, Nat.reduceLeDiff, Nat.reduceLT, Int.reduceLT, Int.reduceLE, Int.reduceEq, Int.reduceToNat, reduceCtorEq, FB, ED, FT, cx_spec_Sealed, bsA_size, gt_iff_lt, h, h', bsA_nil]
  · have h' : ¬ (20000 : Int) < (l.length : Int) := by omega
    have h4 : ∀ x, (fourF x).length = 4 := fun _ => rfl
    have hc : l.length + 4 ≤ 4611686018427387904 := by omega
    simp (maxSteps := 10000000) (disch := first | assumption | omega) only [F_spec_Sealed, params, EG, EL, ↓reduceIte, Nat.reduceEqDiff, Nat.reduceAdd, Nat.reduceSub, Nat.reduceMul, Nat.reduceLeDiff, Nat.reduceLT, Int.reduceLT, Int.reduceLE, Int.reduceEq, Int.reduceToNat, reduceCtorEq, FB, ED, FT, cx_spec_Sealed, bsA_size, gt_iff_lt, h, h', cl_spec_SumOf, sem_spec_SumOf, cl_spec_l02Four, sem_spec_l02Four, bsA_app, h4, hc]
theorem sem_impl_Sealed (l : List UInt8) (hl : l.length ≤ 140737488351232) : S_impl_Sealed.sem [.str (bsA l)] = some (.tup [.str (bsA (sealF l).1), .bool (sealF l).2], []) := by
  rw [sg_impl_Sealed, sem_go]
  unfold sealF
  by_cases h : 20000 < l.length
  · have h' : (20000 : Int) < (l.length : Int) := by omega
    simp (maxSteps := 10000000) (disch := first | assumption | omega) only [F_impl_Sealed, params, EG, EL, ↓reduceIte, Nat.reduceEqDiff, Nat.reduceAdd, Nat.reduceSub, Nat.reduceMul, Nat.reduceLeDiff, Nat.reduceLT, Int.reduceLT, Int.reduceLE, Int.reduceEq, Int.reduceToNat, reduceCtorEq, FB, ED, FT, cx_impl_Sealed, bsA_size, gt_iff_lt, h, h', bsA_nil]
  · have h' : ¬ (20000 : Int) < (l.length : Int) := by omega
    have h4 : ∀ x, (fourF x).length = 4 := fun _ => rfl
    have hc : l.length + 4 ≤ 4611686018427387904 := by omega
    have hf : ∀ x, bsA [UInt8.ofNat (IntKind.wrap .u8 (h24 x)).toNat, UInt8.ofNat (IntKind.wrap .u8 (h16 x)).toNat, UInt8.ofNat (IntKind.wrap .u8 (h8 x)).toNat, UInt8.ofNat (IntKind.wrap .u8 x).toNat] = bsA (fourF x) := fun _ => rfl
    simp (maxSteps := 10000000) (disch := first | assumption | omega) only [F_impl_Sealed, params, EG, EL, ↓reduceIte, Nat.reduceEqDiff, Nat.reduceAdd, Nat.reduceSub, Nat.reduceMul, Nat.reduceLeDiff, Nat.reduceLT, Int.reduceLT, Int.reduceLE, Int.reduceEq, Int.reduceToNat, reduceCtorEq, FB, ED, FT, cx_impl_Sealed, bsA_size, gt_iff_lt, h, h', cl_impl_SumOf, sem_impl_SumOf, bh24, bh16, bh8, seg_four, bsA_mk, hf, bsA_app, h4, hc]
def stS (n : Int) : Option Int → List Int → Bool
  | _, [] => true
  | p, a :: r => decide (0 ≤ a ∧ a ≤ n - 1) && ((match p with | none => decide (a = 0) | some q => decide (q < a)) && stS n (some a) r)
def stI (n : Int) : Option Int → List Int → Bool
  | _, [] => true
  | p, a :: r => decide (a < n) && ((match p with | none => true | some q => decide (q < a)) && stI n (some a) r)
theorem stS_none {n a : Int} {r : List Int} : stS n none (a :: r) = (decide (0 ≤ a ∧ a ≤ n - 1) && (decide (a = 0) && stS n (some a) r)) := rfl
theorem stS_some {n a q : Int} {r : List Int} : stS n (some q) (a :: r) = (decide (0 ≤ a ∧ a ≤ n - 1) && (decide (q < a) && stS n (some a) r)) := rfl
theorem stI_none {n a : Int} {r : List Int} : stI n none (a :: r) = (decide (a < n) && (true && stI n (some a) r)) := rfl
theorem stI_some {n a q : Int} {r : List Int} : stI n (some q) (a :: r) = (decide (a < n) && (decide (q < a) && stI n (some a) r)) := rfl
theorem stSI {n : Int} : ∀ {q : Int} {xs : List Int}, 0 ≤ q → stS n (some q) xs = stI n (some q) xs
  | q, [], _ => rfl
  | q, a :: r, h => by
    rw [stS_some, stI_some]
    by_cases h1 : q < a
    · rw [stSI (q := a) (xs := r) (by omega)]
      have e : (decide (0 ≤ a ∧ a ≤ n - 1)) = decide (a < n) := by rw [decide_eq_decide]; omega
      rw [e]
    · simp [h1]
theorem stS_first {n : Int} (hn : 1 ≤ n) : ∀ (l : List Int) (h : 0 < l.length), stS n none l = (decide (l[0] = 0) && stI n none l)
  | [], h => by simp at h
  | y :: ys, _ => by
    simp only [List.getElem_cons_zero]
    rw [stS_none, stI_none]
    by_cases hy : y = 0
    · subst hy
      rw [stSI (Int.le_refl 0)]
      have e : decide ((0 : Int) ≤ 0 ∧ (0 : Int) ≤ n - 1) = decide ((0 : Int) < n) := by rw [decide_eq_decide]; omega
      rw [e]; simp
    · simp [hy]
def prevO (xs : List Int) : Nat → Option Int
  | 0 => none
  | j + 1 => xs[j]?
def wordB (n size w : Int) : Bool := decOk w && ((!(memF (dOp w) && decide (size ≤ dC w))) && (!((decide (dOp w = 7) || decide (dOp w = 8)) && decide (n ≤ dC w))))
def lastF : List Int → DIns → DIns
  | [], d => d
  | w :: r, _ => lastF r ⟨dOp w, dA w, dB w, dC w⟩
def imageOkF (x : DImage) : Bool := decide (1 ≤ (x.Starts.length : Int) ∧ (x.Starts.length : Int) ≤ 4) && (decide (1 ≤ (x.Text.length : Int) ∧ (x.Text.length : Int) ≤ 800) && (decide (1 ≤ x.Size ∧ x.Size ≤ 100) && (stS x.Text.length none x.Starts && (x.Text.all (wordB x.Text.length x.Size) && (decide ((lastF x.Text ⟨0, 0, 0, 0⟩).Op = 10) && decide ((lastF x.Text ⟨0, 0, 0, 0⟩).A = 7))))))
set_option maxHeartbeats 2000000 in
theorem loop0_spec_ImageOk (x : DImage) (h2 : 1 ≤ (x.Text.length : Int) ∧ (x.Text.length : Int) ≤ 800) (h1 : 1 ≤ (x.Starts.length : Int) ∧ (x.Starts.length : Int) ≤ 4) : loopV X_spec_ImageOk 0 [1, 3, 4] [(1, [1, 3]), (0, [2])] B0_spec_ImageOk ⟨[(1, .ptr ⟨0, none, 0⟩ 3 0 0), (3, .int .i64 (x.Text.length : Int)), (4, .int .i64 0)], [some ⟨true, 0, 3, [[.tree 1 (x.Text.map cI), .tree 1 (x.Starts.map cI), .int .i64 x.Size]]⟩]⟩ = okR (stS x.Text.length none x.Starts) 0 ⟨[(1, .ptr ⟨0, none, 0⟩ 3 0 0), (3, .int .i64 (x.Text.length : Int))], [some ⟨true, 0, 3, [[.tree 1 (x.Text.map cI), .tree 1 (x.Starts.map cI), .int .i64 x.Size]]⟩]⟩ 2 := by
  have hn1 : IntKind.wrap .i64 ((x.Text.length : Int) - 1) = (x.Text.length : Int) - 1 := wrapI (by omega) (by omega)
  refine loop_list x.Starts (fun i (a : Option Int) => a = prevO x.Starts i) (fun i a => ⟨[(1, .ptr ⟨0, none, 0⟩ 3 0 0), (3, .int .i64 (x.Text.length : Int)), (4, .int .i64 ((i : Nat) : Int))], [some ⟨true, 0, 3, [[.tree 1 (x.Text.map cI), .tree 1 (x.Starts.map cI), .int .i64 x.Size]]⟩]⟩) (fun rest a => okR (stS x.Text.length a rest) 0 ⟨[(1, .ptr ⟨0, none, 0⟩ 3 0 0), (3, .int .i64 (x.Text.length : Int))], [some ⟨true, 0, 3, [[.tree 1 (x.Text.map cI), .tree 1 (x.Starts.map cI), .int .i64 x.Size]]⟩]⟩ 2) ?_ ?_ none rfl
  · intro a _
    rw [loopV_by B0_spec_ImageOk.eq_1]
    simp only [EG, EL, ↓reduceIte, Nat.reduceEqDiff, Nat.reduceAdd, Nat.reduceSub, Nat.reduceMul, Nat.reduceLeDiff, Nat.reduceLT, Int.reduceLT, Int.reduceLE, Int.reduceEq, Int.reduceToNat, reduceCtorEq, FB, int_lt_irrefl, stS, okR_true]
  · rintro i hi0 y rest a rfl rfl rfl ih
    have hi : (i : Int) < (x.Starts.length : Int) := by omega
    have hg := getRow cI x.Starts hi0
    have i1 := ih (some x.Starts[i]) (by simp only [prevO]; rw [List.getElem?_eq_getElem hi0])
    rw [loopV_by B0_spec_ImageOk.eq_1]
    cases i with
    | zero =>
      have hz : (((0 : Nat) : Int)) = 0 := rfl
      have h0 : ¬ (0 : Int) < 0 := by omega
      simp only [prevO, stS_none, hz] at i1 hi ⊢
      generalize x.Starts[0] = y at i1 hg ⊢
      by_cases c1 : 0 ≤ y ∧ y ≤ (x.Text.length : Int) - 1 <;> by_cases c2 : y = 0 <;> by_cases c3 : y < (x.Text.length : Int)
      all_goals first | (exfalso; omega) | skip
      all_goals have c4 : ((x.Text.length : Int) ≤ y) = ¬ (y < (x.Text.length : Int)) := by rw [Int.not_lt]
      all_goals first | replace c2 := eq_true (show y = 0 from c2) | replace c2 := eq_false (show ¬ y = 0 from c2)
      all_goals have hw0 : IntKind.wrap .i64 (0 + 1) = 1 := by decide
      all_goals simp only [Nat.zero_add, cast_lit] at i1
      all_goals simp (maxSteps := 10000000) (disch := first | assumption | omega) only [EG, EL, ↓reduceIte, Nat.reduceEqDiff, Nat.reduceAdd, Nat.reduceSub, Nat.reduceMul, Nat.reduceLeDiff, Nat.reduceLT, Int.reduceLT, Int.reduceLE, Int.reduceEq, Int.reduceToNat, reduceCtorEq, FB, ED, EF, FT, cx_spec_ImageOk, cl_spec_l01In, sem_spec_l01In, cl_spec_Decode, sem_spec_Decode, cl_spec_TouchOf, sem_spec_TouchOf, hi, hi0, hg, hn1, h0, hw0, c1, c2, c3, c4, gt_iff_lt, ge_iff_le, decide_true, decide_false, Bool.and_true, Bool.true_and, Bool.and_false, Bool.false_and, wrap_succ, i1, okR_false, okR_true]
    | succ j =>
      have hj : j < x.Starts.length := by omega
      have hj' : (j : Int) < (x.Starts.length : Int) := by omega
      have hp := getRow cI x.Starts hj
      have hw : IntKind.wrap .i64 (((j + 1 : Nat) : Int) - 1) = (j : Int) := by rw [wrapI (by omega) (by omega)]; omega
      have hz : ¬ ((j + 1 : Nat) : Int) = 0 := by omega
      have hz2 : (0 : Int) < ((j + 1 : Nat) : Int) := by omega
      have ep : prevO x.Starts (j + 1) = some x.Starts[j] := by simp only [prevO]; rw [List.getElem?_eq_getElem hj]
      rw [ep, stS_some]
      generalize x.Starts[j + 1] = y at i1 hg ⊢
      generalize x.Starts[j] = q at i1 hp ⊢
      have c4 : ((x.Text.length : Int) ≤ y) = ¬ (y < (x.Text.length : Int)) := by rw [Int.not_lt]
      have c5 : (y ≤ q) = ¬ (q < y) := by rw [Int.not_lt]
      by_cases c1 : 0 ≤ y ∧ y ≤ (x.Text.length : Int) - 1 <;> by_cases c2 : q < y <;> by_cases c3 : y < (x.Text.length : Int)
      all_goals first | (exfalso; omega) | skip
      all_goals simp (maxSteps := 10000000) (disch := first | assumption | omega) only [EG, EL, ↓reduceIte, Nat.reduceEqDiff, Nat.reduceAdd, Nat.reduceSub, Nat.reduceMul, Nat.reduceLeDiff, Nat.reduceLT, Int.reduceLT, Int.reduceLE, Int.reduceEq, Int.reduceToNat, reduceCtorEq, FB, ED, EF, FT, cx_spec_ImageOk, cl_spec_l01In, sem_spec_l01In, cl_spec_Decode, sem_spec_Decode, cl_spec_TouchOf, sem_spec_TouchOf, hi, hi0, hg, hj, hj', hp, hw, hn1, hz, hz2, c1, c2, c3, c4, c5, gt_iff_lt, ge_iff_le, decide_true, decide_false, Bool.and_true, Bool.true_and, Bool.and_false, Bool.false_and, wrap_succ, i1, okR_false, okR_true]
set_option maxHeartbeats 4000000 in
theorem loop1_spec_ImageOk (x : DImage) (h2 : 1 ≤ (x.Text.length : Int) ∧ (x.Text.length : Int) ≤ 800) (h3 : 1 ≤ x.Size ∧ x.Size ≤ 100) (d0 : DIns) : loopV X_spec_ImageOk 0 [1, 3, 5, 6] [(3, [5]), (0, [2])] B1_spec_ImageOk ⟨[(1, .ptr ⟨0, none, 0⟩ 3 0 0), (3, .int .i64 (x.Text.length : Int)), (5, .ptr ⟨1, none, 0⟩ 4 0 0), (6, .int .i64 0)], [some ⟨true, 0, 3, [[.tree 1 (x.Text.map cI), .tree 1 (x.Starts.map cI), .int .i64 x.Size]]⟩, some ⟨true, 0, 4, [[.int .i64 d0.Op, .int .i64 d0.A, .int .i64 d0.B, .int .i64 d0.C]]⟩]⟩ = okR (x.Text.all (wordB x.Text.length x.Size)) 2 ⟨[(5, .ptr ⟨0, none, 0⟩ 4 0 0)], [some ⟨true, 0, 4, [[.int .i64 (lastF x.Text d0).Op, .int .i64 (lastF x.Text d0).A, .int .i64 (lastF x.Text d0).B, .int .i64 (lastF x.Text d0).C]]⟩]⟩ 2 := by
  refine loop_list x.Text (fun _ (_ : DIns) => True) (fun i a => ⟨[(1, .ptr ⟨0, none, 0⟩ 3 0 0), (3, .int .i64 (x.Text.length : Int)), (5, .ptr ⟨1, none, 0⟩ 4 0 0), (6, .int .i64 ((i : Nat) : Int))], [some ⟨true, 0, 3, [[.tree 1 (x.Text.map cI), .tree 1 (x.Starts.map cI), .int .i64 x.Size]]⟩, some ⟨true, 0, 4, [[.int .i64 a.Op, .int .i64 a.A, .int .i64 a.B, .int .i64 a.C]]⟩]⟩) (fun rest a => okR (rest.all (wordB x.Text.length x.Size)) 2 ⟨[(5, .ptr ⟨0, none, 0⟩ 4 0 0)], [some ⟨true, 0, 4, [[.int .i64 (lastF rest a).Op, .int .i64 (lastF rest a).A, .int .i64 (lastF rest a).B, .int .i64 (lastF rest a).C]]⟩]⟩ 2) ?_ ?_ d0 trivial
  · intro a _
    rw [loopV_by B1_spec_ImageOk.eq_1]
    simp only [EG, EL, ↓reduceIte, Nat.reduceEqDiff, Nat.reduceAdd, Nat.reduceSub, Nat.reduceMul, Nat.reduceLeDiff, Nat.reduceLT, Int.reduceLT, Int.reduceLE, Int.reduceEq, Int.reduceToNat, reduceCtorEq, FB, int_lt_irrefl, lastF, List.all_nil, okR_true]
  · rintro i hi0 y rest a rfl rfl _ ih
    have hi : (i : Int) < (x.Text.length : Int) := by omega
    have hi2 : 0 ≤ (i : Int) ∧ (i : Int) ≤ (x.Text.length : Int) - 1 := by omega
    have hg := getRow cI x.Text hi0
    have hgd : x.Text.getD i 0 = x.Text[i] := by simp [hi0]
    have hl : x.Text.length ≤ 1048576 := by omega
    have i1 := ih ⟨dOp x.Text[i], dA x.Text[i], dB x.Text[i], dC x.Text[i]⟩ trivial
    have htf : touchF x.Text (i : Int) = if decOk x.Text[i] = true ∧ memF (dOp x.Text[i]) = true then dC x.Text[i] else -1 := by
      unfold touchF
      simp only [hi2, Int.toNat_natCast, hgd, true_and, and_self]
    rw [loopV_by B1_spec_ImageOk.eq_1]
    simp only [List.all_cons, wordB]
    generalize x.Text[i] = w at hg htf i1 ⊢
    have m7 : memF 7 = false := by decide
    have m8 : memF 8 = false := by decide
    cases hd : decOk w
    · simp (maxSteps := 10000000) (disch := first | assumption | omega) only [EG, EL, ↓reduceIte, Nat.reduceEqDiff, Nat.reduceAdd, Nat.reduceSub, Nat.reduceMul, Nat.reduceLeDiff, Nat.reduceLT, Int.reduceLT, Int.reduceLE, Int.reduceEq, Int.reduceToNat, reduceCtorEq, FB, ED, EF, FT, cx_spec_ImageOk, cl_spec_l01In, sem_spec_l01In, cl_spec_Decode, sem_spec_Decode, cl_spec_TouchOf, sem_spec_TouchOf, decR, hi, hi0, hg, hd, Bool.false_and, okR_false]
    · have hs1 : ¬ x.Size ≤ -1 := by omega
      cases hm : memF (dOp w) <;> by_cases c1 : x.Size ≤ dC w <;> by_cases c2 : dOp w = 7 <;> by_cases c3 : dOp w = 8 <;> by_cases c4 : (x.Text.length : Int) ≤ dC w
      all_goals first | (exfalso; omega) | (exfalso; rw [c2, m7] at hm; exact absurd hm (by decide)) | (exfalso; rw [c3, m8] at hm; exact absurd hm (by decide)) | skip
      all_goals (try simp only [c2] at i1)
      all_goals (try simp only [c3] at i1)
      all_goals simp only [hd, hm, true_and, if_true, Bool.false_eq_true, if_false, and_true, and_false] at htf
      all_goals simp (maxSteps := 10000000) (disch := first | assumption | omega) only [EG, EL, ↓reduceIte, Nat.reduceEqDiff, Nat.reduceAdd, Nat.reduceSub, Nat.reduceMul, Nat.reduceLeDiff, Nat.reduceLT, Int.reduceLT, Int.reduceLE, Int.reduceEq, Int.reduceToNat, reduceCtorEq, FB, ED, EF, FT, cx_spec_ImageOk, cl_spec_l01In, sem_spec_l01In, cl_spec_Decode, sem_spec_Decode, cl_spec_TouchOf, sem_spec_TouchOf, decR, htf, hi, hi0, hg, hd, hm, m7, m8, hs1, c1, c2, c3, c4, gt_iff_lt, ge_iff_le, decide_true, decide_false, Bool.and_true, Bool.true_and, Bool.and_false, Bool.false_and, wrap_succ, i1, lastF, okR_false, okR_true]
set_option maxHeartbeats 2000000 in
theorem loop0_impl_ImageOk (x : DImage) (h2 : 1 ≤ (x.Text.length : Int) ∧ (x.Text.length : Int) ≤ 800) (h1 : 1 ≤ (x.Starts.length : Int) ∧ (x.Starts.length : Int) ≤ 4) : loopV X_impl_ImageOk 0 [1, 36, 37, 38] [(1, [1]), (0, [2])] B0_impl_ImageOk ⟨[(1, .ptr ⟨0, none, 0⟩ 3 0 0), (36, .tree 1 (x.Starts.map cI)), (37, .int .i64 (x.Starts.length : Int)), (38, .int .i64 0)], [some ⟨true, 0, 3, [[.tree 1 (x.Text.map cI), .tree 1 (x.Starts.map cI), .int .i64 x.Size]]⟩]⟩ = okR (stI x.Text.length none x.Starts) 0 ⟨[(1, .ptr ⟨0, none, 0⟩ 3 0 0)], [some ⟨true, 0, 3, [[.tree 1 (x.Text.map cI), .tree 1 (x.Starts.map cI), .int .i64 x.Size]]⟩]⟩ 2 := by
  have hn1 : IntKind.wrap .i64 ((x.Text.length : Int) - 1) = (x.Text.length : Int) - 1 := wrapI (by omega) (by omega)
  refine loop_list x.Starts (fun i (a : Option Int) => a = prevO x.Starts i) (fun i a => ⟨[(1, .ptr ⟨0, none, 0⟩ 3 0 0), (36, .tree 1 (x.Starts.map cI)), (37, .int .i64 (x.Starts.length : Int)), (38, .int .i64 ((i : Nat) : Int))], [some ⟨true, 0, 3, [[.tree 1 (x.Text.map cI), .tree 1 (x.Starts.map cI), .int .i64 x.Size]]⟩]⟩) (fun rest a => okR (stI x.Text.length a rest) 0 ⟨[(1, .ptr ⟨0, none, 0⟩ 3 0 0)], [some ⟨true, 0, 3, [[.tree 1 (x.Text.map cI), .tree 1 (x.Starts.map cI), .int .i64 x.Size]]⟩]⟩ 2) ?_ ?_ none rfl
  · intro a _
    rw [loopV_by B0_impl_ImageOk.eq_1]
    simp only [EG, EL, ↓reduceIte, Nat.reduceEqDiff, Nat.reduceAdd, Nat.reduceSub, Nat.reduceMul, Nat.reduceLeDiff, Nat.reduceLT, Int.reduceLT, Int.reduceLE, Int.reduceEq, Int.reduceToNat, reduceCtorEq, FB, int_lt_irrefl, stI, okR_true]
  · rintro i hi0 y rest a rfl rfl rfl ih
    have hi : (i : Int) < (x.Starts.length : Int) := by omega
    have hg := getRow cI x.Starts hi0
    have i1 := ih (some x.Starts[i]) (by simp only [prevO]; rw [List.getElem?_eq_getElem hi0])
    rw [loopV_by B0_impl_ImageOk.eq_1]
    cases i with
    | zero =>
      have hz : (((0 : Nat) : Int)) = 0 := rfl
      have h0 : ¬ (0 : Int) < 0 := by omega
      simp only [prevO, stI_none, hz] at i1 hi ⊢
      generalize x.Starts[0] = y at i1 hg ⊢
      by_cases c1 : 0 ≤ y ∧ y ≤ (x.Text.length : Int) - 1 <;> by_cases c2 : y = 0 <;> by_cases c3 : y < (x.Text.length : Int)
      all_goals first | (exfalso; omega) | skip
      all_goals have c4 : ((x.Text.length : Int) ≤ y) = ¬ (y < (x.Text.length : Int)) := by rw [Int.not_lt]
      all_goals first | replace c2 := eq_true (show y = 0 from c2) | replace c2 := eq_false (show ¬ y = 0 from c2)
      all_goals have hw0 : IntKind.wrap .i64 (0 + 1) = 1 := by decide
      all_goals simp only [Nat.zero_add, cast_lit] at i1
      all_goals simp (maxSteps := 10000000) (disch := first | assumption | omega) only [EG, EL, ↓reduceIte, Nat.reduceEqDiff, Nat.reduceAdd, Nat.reduceSub, Nat.reduceMul, Nat.reduceLeDiff, Nat.reduceLT, Int.reduceLT, Int.reduceLE, Int.reduceEq, Int.reduceToNat, reduceCtorEq, FB, ED, EF, FT, cx_impl_ImageOk, cl_impl_within, sem_impl_within, cl_impl_Decode, sem_impl_Decode, cl_impl_usesMem, sem_impl_usesMem, hi, hi0, hg, hn1, h0, hw0, c1, c2, c3, c4, gt_iff_lt, ge_iff_le, decide_true, decide_false, Bool.and_true, Bool.true_and, Bool.and_false, Bool.false_and, wrap_succ, i1, okR_false, okR_true]
    | succ j =>
      have hj : j < x.Starts.length := by omega
      have hj' : (j : Int) < (x.Starts.length : Int) := by omega
      have hp := getRow cI x.Starts hj
      have hw : IntKind.wrap .i64 (((j + 1 : Nat) : Int) - 1) = (j : Int) := by rw [wrapI (by omega) (by omega)]; omega
      have hz : ¬ ((j + 1 : Nat) : Int) = 0 := by omega
      have hz2 : (0 : Int) < ((j + 1 : Nat) : Int) := by omega
      have ep : prevO x.Starts (j + 1) = some x.Starts[j] := by simp only [prevO]; rw [List.getElem?_eq_getElem hj]
      rw [ep, stI_some]
      generalize x.Starts[j + 1] = y at i1 hg ⊢
      generalize x.Starts[j] = q at i1 hp ⊢
      have c4 : ((x.Text.length : Int) ≤ y) = ¬ (y < (x.Text.length : Int)) := by rw [Int.not_lt]
      have c5 : (y ≤ q) = ¬ (q < y) := by rw [Int.not_lt]
      by_cases c1 : 0 ≤ y ∧ y ≤ (x.Text.length : Int) - 1 <;> by_cases c2 : q < y <;> by_cases c3 : y < (x.Text.length : Int)
      all_goals first | (exfalso; omega) | skip
      all_goals simp (maxSteps := 10000000) (disch := first | assumption | omega) only [EG, EL, ↓reduceIte, Nat.reduceEqDiff, Nat.reduceAdd, Nat.reduceSub, Nat.reduceMul, Nat.reduceLeDiff, Nat.reduceLT, Int.reduceLT, Int.reduceLE, Int.reduceEq, Int.reduceToNat, reduceCtorEq, FB, ED, EF, FT, cx_impl_ImageOk, cl_impl_within, sem_impl_within, cl_impl_Decode, sem_impl_Decode, cl_impl_usesMem, sem_impl_usesMem, hi, hi0, hg, hj, hj', hp, hw, hn1, hz, hz2, c1, c2, c3, c4, c5, gt_iff_lt, ge_iff_le, decide_true, decide_false, Bool.and_true, Bool.true_and, Bool.and_false, Bool.false_and, wrap_succ, i1, okR_false, okR_true]
set_option maxHeartbeats 4000000 in
theorem loop1_impl_ImageOk (x : DImage) (h2 : 1 ≤ (x.Text.length : Int) ∧ (x.Text.length : Int) ≤ 800) (h3 : 1 ≤ x.Size ∧ x.Size ≤ 100) (d0 : DIns) : loopV X_impl_ImageOk 0 [1, 5, 65, 66, 67] [(3, [5]), (0, [2])] B1_impl_ImageOk ⟨[(1, .ptr ⟨0, none, 0⟩ 3 0 0), (5, .ptr ⟨1, none, 0⟩ 4 0 0), (65, .tree 1 (x.Text.map cI)), (66, .int .i64 (x.Text.length : Int)), (67, .int .i64 0)], [some ⟨true, 0, 3, [[.tree 1 (x.Text.map cI), .tree 1 (x.Starts.map cI), .int .i64 x.Size]]⟩, some ⟨true, 0, 4, [[.int .i64 d0.Op, .int .i64 d0.A, .int .i64 d0.B, .int .i64 d0.C]]⟩]⟩ = okR (x.Text.all (wordB x.Text.length x.Size)) 2 ⟨[(5, .ptr ⟨0, none, 0⟩ 4 0 0)], [some ⟨true, 0, 4, [[.int .i64 (lastF x.Text d0).Op, .int .i64 (lastF x.Text d0).A, .int .i64 (lastF x.Text d0).B, .int .i64 (lastF x.Text d0).C]]⟩]⟩ 2 := by
  refine loop_list x.Text (fun _ (_ : DIns) => True) (fun i a => ⟨[(1, .ptr ⟨0, none, 0⟩ 3 0 0), (5, .ptr ⟨1, none, 0⟩ 4 0 0), (65, .tree 1 (x.Text.map cI)), (66, .int .i64 (x.Text.length : Int)), (67, .int .i64 ((i : Nat) : Int))], [some ⟨true, 0, 3, [[.tree 1 (x.Text.map cI), .tree 1 (x.Starts.map cI), .int .i64 x.Size]]⟩, some ⟨true, 0, 4, [[.int .i64 a.Op, .int .i64 a.A, .int .i64 a.B, .int .i64 a.C]]⟩]⟩) (fun rest a => okR (rest.all (wordB x.Text.length x.Size)) 2 ⟨[(5, .ptr ⟨0, none, 0⟩ 4 0 0)], [some ⟨true, 0, 4, [[.int .i64 (lastF rest a).Op, .int .i64 (lastF rest a).A, .int .i64 (lastF rest a).B, .int .i64 (lastF rest a).C]]⟩]⟩ 2) ?_ ?_ d0 trivial
  · intro a _
    rw [loopV_by B1_impl_ImageOk.eq_1]
    simp only [EG, EL, ↓reduceIte, Nat.reduceEqDiff, Nat.reduceAdd, Nat.reduceSub, Nat.reduceMul, Nat.reduceLeDiff, Nat.reduceLT, Int.reduceLT, Int.reduceLE, Int.reduceEq, Int.reduceToNat, reduceCtorEq, FB, int_lt_irrefl, lastF, List.all_nil, okR_true]
  · rintro i hi0 y rest a rfl rfl _ ih
    have hi : (i : Int) < (x.Text.length : Int) := by omega
    have hi2 : 0 ≤ (i : Int) ∧ (i : Int) ≤ (x.Text.length : Int) - 1 := by omega
    have hg := getRow cI x.Text hi0
    have hgd : x.Text.getD i 0 = x.Text[i] := by simp [hi0]
    have hl : x.Text.length ≤ 1048576 := by omega
    have i1 := ih ⟨dOp x.Text[i], dA x.Text[i], dB x.Text[i], dC x.Text[i]⟩ trivial
    have htf : touchF x.Text (i : Int) = if decOk x.Text[i] = true ∧ memF (dOp x.Text[i]) = true then dC x.Text[i] else -1 := by
      unfold touchF
      simp only [hi2, Int.toNat_natCast, hgd, true_and, and_self]
    rw [loopV_by B1_impl_ImageOk.eq_1]
    simp only [List.all_cons, wordB]
    generalize x.Text[i] = w at hg htf i1 ⊢
    have m7 : memF 7 = false := by decide
    have m8 : memF 8 = false := by decide
    cases hd : decOk w
    · simp (maxSteps := 10000000) (disch := first | assumption | omega) only [EG, EL, ↓reduceIte, Nat.reduceEqDiff, Nat.reduceAdd, Nat.reduceSub, Nat.reduceMul, Nat.reduceLeDiff, Nat.reduceLT, Int.reduceLT, Int.reduceLE, Int.reduceEq, Int.reduceToNat, reduceCtorEq, FB, ED, EF, FT, cx_impl_ImageOk, cl_impl_within, sem_impl_within, cl_impl_Decode, sem_impl_Decode, cl_impl_usesMem, sem_impl_usesMem, decR, hi, hi0, hg, hd, Bool.false_and, okR_false]
    · have hs1 : ¬ x.Size ≤ -1 := by omega
      cases hm : memF (dOp w) <;> by_cases c1 : x.Size ≤ dC w <;> by_cases c2 : dOp w = 7 <;> by_cases c3 : dOp w = 8 <;> by_cases c4 : (x.Text.length : Int) ≤ dC w
      all_goals first | (exfalso; omega) | (exfalso; rw [c2, m7] at hm; exact absurd hm (by decide)) | (exfalso; rw [c3, m8] at hm; exact absurd hm (by decide)) | skip
      all_goals (try simp only [c2] at i1)
      all_goals (try simp only [c3] at i1)
      all_goals simp only [hd, hm, true_and, if_true, Bool.false_eq_true, if_false, and_true, and_false] at htf
      all_goals simp (maxSteps := 10000000) (disch := first | assumption | omega) only [EG, EL, ↓reduceIte, Nat.reduceEqDiff, Nat.reduceAdd, Nat.reduceSub, Nat.reduceMul, Nat.reduceLeDiff, Nat.reduceLT, Int.reduceLT, Int.reduceLE, Int.reduceEq, Int.reduceToNat, reduceCtorEq, FB, ED, EF, FT, cx_impl_ImageOk, cl_impl_within, sem_impl_within, cl_impl_Decode, sem_impl_Decode, cl_impl_usesMem, sem_impl_usesMem, decR, htf, hi, hi0, hg, hd, hm, m7, m8, hs1, c1, c2, c3, c4, gt_iff_lt, ge_iff_le, decide_true, decide_false, Bool.and_true, Bool.true_and, Bool.and_false, Bool.false_and, wrap_succ, i1, lastF, okR_false, okR_true]
theorem sem_spec_ImageOk (x : DImage) : S_spec_ImageOk.sem [.agg (cImage x)] = some (.bool (imageOkF x), []) := by
  rw [sg_spec_ImageOk, sem_go]
  unfold imageOkF
  by_cases h1 : 1 ≤ (x.Starts.length : Int) ∧ (x.Starts.length : Int) ≤ 4
  · by_cases h2 : 1 ≤ (x.Text.length : Int) ∧ (x.Text.length : Int) ≤ 800
    · by_cases h3 : 1 ≤ x.Size ∧ x.Size ≤ 100
      · have l0 := loop0_spec_ImageOk x h2 h1
        have l1 := loop1_spec_ImageOk x h2 h3 ⟨0, 0, 0, 0⟩
        cases ha : stS x.Text.length none x.Starts
        · rw [ha, okR_false] at l0
          simp (maxSteps := 10000000) (disch := first | assumption | omega) only [F_spec_ImageOk, params, EG, EL, ↓reduceIte, Nat.reduceEqDiff, Nat.reduceAdd, Nat.reduceSub, Nat.reduceMul, Nat.reduceLeDiff, Nat.reduceLT, Int.reduceLT, Int.reduceLE, Int.reduceEq, Int.reduceToNat, reduceCtorEq, FB, ED, EF, FT, cx_spec_ImageOk, cl_spec_l01In, sem_spec_l01In, h1, h2, h3, decide_true, l0, Bool.true_and, Bool.false_and]
        · rw [ha, okR_true] at l0
          cases hb : x.Text.all (wordB x.Text.length x.Size)
          · rw [hb, okR_false] at l1
            simp (maxSteps := 10000000) (disch := first | assumption | omega) only [F_spec_ImageOk, params, EG, EL, ↓reduceIte, Nat.reduceEqDiff, Nat.reduceAdd, Nat.reduceSub, Nat.reduceMul, Nat.reduceLeDiff, Nat.reduceLT, Int.reduceLT, Int.reduceLE, Int.reduceEq, Int.reduceToNat, reduceCtorEq, FB, ED, EF, FT, cx_spec_ImageOk, cl_spec_l01In, sem_spec_l01In, h1, h2, h3, decide_true, l0, l1, Bool.true_and, Bool.false_and]
          · rw [hb, okR_true] at l1
            by_cases h4 : (lastF x.Text ⟨0, 0, 0, 0⟩).Op = 10
            all_goals simp (maxSteps := 10000000) (disch := first | assumption | omega) only [F_spec_ImageOk, params, EG, EL, ↓reduceIte, Nat.reduceEqDiff, Nat.reduceAdd, Nat.reduceSub, Nat.reduceMul, Nat.reduceLeDiff, Nat.reduceLT, Int.reduceLT, Int.reduceLE, Int.reduceEq, Int.reduceToNat, reduceCtorEq, FB, ED, EF, FT, cx_spec_ImageOk, cl_spec_l01In, sem_spec_l01In, h1, h2, h3, h4, decide_true, decide_false, l0, l1, Bool.true_and, Bool.false_and]
      · simp (maxSteps := 10000000) (disch := first | assumption | omega) only [F_spec_ImageOk, params, EG, EL, ↓reduceIte, Nat.reduceEqDiff, Nat.reduceAdd, Nat.reduceSub, Nat.reduceMul, Nat.reduceLeDiff, Nat.reduceLT, Int.reduceLT, Int.reduceLE, Int.reduceEq, Int.reduceToNat, reduceCtorEq, FB, ED, EF, FT, cx_spec_ImageOk, cl_spec_l01In, sem_spec_l01In, h1, h2, h3, decide_true, decide_false, Bool.true_and, Bool.false_and]
    · simp (maxSteps := 10000000) (disch := first | assumption | omega) only [F_spec_ImageOk, params, EG, EL, ↓reduceIte, Nat.reduceEqDiff, Nat.reduceAdd, Nat.reduceSub, Nat.reduceMul, Nat.reduceLeDiff, Nat.reduceLT, Int.reduceLT, Int.reduceLE, Int.reduceEq, Int.reduceToNat, reduceCtorEq, FB, ED, EF, FT, cx_spec_ImageOk, cl_spec_l01In, sem_spec_l01In, h1, h2, decide_true, decide_false, Bool.true_and, Bool.false_and]
  · simp (maxSteps := 10000000) (disch := first | assumption | omega) only [F_spec_ImageOk, params, EG, EL, ↓reduceIte, Nat.reduceEqDiff, Nat.reduceAdd, Nat.reduceSub, Nat.reduceMul, Nat.reduceLeDiff, Nat.reduceLT, Int.reduceLT, Int.reduceLE, Int.reduceEq, Int.reduceToNat, reduceCtorEq, FB, ED, EF, FT, cx_spec_ImageOk, cl_spec_l01In, sem_spec_l01In, h1, decide_true, decide_false, Bool.true_and, Bool.false_and]
theorem sem_impl_ImageOk (x : DImage) : S_impl_ImageOk.sem [.agg (cImage x)] = some (.bool (imageOkF x), []) := by
  rw [sg_impl_ImageOk, sem_go]
  unfold imageOkF
  by_cases h1 : 1 ≤ (x.Starts.length : Int) ∧ (x.Starts.length : Int) ≤ 4
  · by_cases h2 : 1 ≤ (x.Text.length : Int) ∧ (x.Text.length : Int) ≤ 800
    · by_cases h3 : 1 ≤ x.Size ∧ x.Size ≤ 100
      · have l0 := loop0_impl_ImageOk x h2 h1
        have l1 := loop1_impl_ImageOk x h2 h3 ⟨0, 0, 0, 0⟩
        have i0 : 0 < x.Starts.length := by omega
        have i0' : (0 : Int) < (x.Starts.length : Int) := by omega
        have hg := getRow cI x.Starts i0
        have hst := stS_first (n := (x.Text.length : Int)) (by omega) x.Starts i0
        rw [hst]
        by_cases hy : x.Starts[0] = 0
        · cases ha : stI x.Text.length none x.Starts
          · rw [ha, okR_false] at l0
            simp (maxSteps := 10000000) (disch := first | assumption | omega) only [F_impl_ImageOk, params, EG, EL, ↓reduceIte, Nat.reduceEqDiff, Nat.reduceAdd, Nat.reduceSub, Nat.reduceMul, Nat.reduceLeDiff, Nat.reduceLT, Int.reduceLT, Int.reduceLE, Int.reduceEq, Int.reduceToNat, reduceCtorEq, FB, ED, EF, FT, cx_impl_ImageOk, cl_impl_within, sem_impl_within, h1, h2, h3, hg, hy, i0, i0', decide_true, l0, Bool.true_and, Bool.false_and]
          · rw [ha, okR_true] at l0
            cases hb : x.Text.all (wordB x.Text.length x.Size)
            · rw [hb, okR_false] at l1
              simp (maxSteps := 10000000) (disch := first | assumption | omega) only [F_impl_ImageOk, params, EG, EL, ↓reduceIte, Nat.reduceEqDiff, Nat.reduceAdd, Nat.reduceSub, Nat.reduceMul, Nat.reduceLeDiff, Nat.reduceLT, Int.reduceLT, Int.reduceLE, Int.reduceEq, Int.reduceToNat, reduceCtorEq, FB, ED, EF, FT, cx_impl_ImageOk, cl_impl_within, sem_impl_within, h1, h2, h3, hg, hy, i0, i0', decide_true, l0, l1, Bool.true_and, Bool.false_and]
            · rw [hb, okR_true] at l1
              by_cases h4 : (lastF x.Text ⟨0, 0, 0, 0⟩).Op = 10
              all_goals simp (maxSteps := 10000000) (disch := first | assumption | omega) only [F_impl_ImageOk, params, EG, EL, ↓reduceIte, Nat.reduceEqDiff, Nat.reduceAdd, Nat.reduceSub, Nat.reduceMul, Nat.reduceLeDiff, Nat.reduceLT, Int.reduceLT, Int.reduceLE, Int.reduceEq, Int.reduceToNat, reduceCtorEq, FB, ED, EF, FT, cx_impl_ImageOk, cl_impl_within, sem_impl_within, h1, h2, h3, h4, hg, hy, i0, i0', decide_true, decide_false, l0, l1, Bool.true_and, Bool.false_and]
        · simp (maxSteps := 10000000) (disch := first | assumption | omega) only [F_impl_ImageOk, params, EG, EL, ↓reduceIte, Nat.reduceEqDiff, Nat.reduceAdd, Nat.reduceSub, Nat.reduceMul, Nat.reduceLeDiff, Nat.reduceLT, Int.reduceLT, Int.reduceLE, Int.reduceEq, Int.reduceToNat, reduceCtorEq, FB, ED, EF, FT, cx_impl_ImageOk, cl_impl_within, sem_impl_within, h1, h2, h3, hg, hy, i0, i0', decide_true, decide_false, Bool.true_and, Bool.false_and]
      · simp (maxSteps := 10000000) (disch := first | assumption | omega) only [F_impl_ImageOk, params, EG, EL, ↓reduceIte, Nat.reduceEqDiff, Nat.reduceAdd, Nat.reduceSub, Nat.reduceMul, Nat.reduceLeDiff, Nat.reduceLT, Int.reduceLT, Int.reduceLE, Int.reduceEq, Int.reduceToNat, reduceCtorEq, FB, ED, EF, FT, cx_impl_ImageOk, cl_impl_within, sem_impl_within, h1, h2, h3, decide_true, decide_false, Bool.true_and, Bool.false_and]
    · simp (maxSteps := 10000000) (disch := first | assumption | omega) only [F_impl_ImageOk, params, EG, EL, ↓reduceIte, Nat.reduceEqDiff, Nat.reduceAdd, Nat.reduceSub, Nat.reduceMul, Nat.reduceLeDiff, Nat.reduceLT, Int.reduceLT, Int.reduceLE, Int.reduceEq, Int.reduceToNat, reduceCtorEq, FB, ED, EF, FT, cx_impl_ImageOk, cl_impl_within, sem_impl_within, h1, h2, decide_true, decide_false, Bool.true_and, Bool.false_and]
  · simp (maxSteps := 10000000) (disch := first | assumption | omega) only [F_impl_ImageOk, params, EG, EL, ↓reduceIte, Nat.reduceEqDiff, Nat.reduceAdd, Nat.reduceSub, Nat.reduceMul, Nat.reduceLeDiff, Nat.reduceLT, Int.reduceLT, Int.reduceLE, Int.reduceEq, Int.reduceToNat, reduceCtorEq, FB, ED, EF, FT, cx_impl_ImageOk, cl_impl_within, sem_impl_within, h1, decide_true, decide_false, Bool.true_and, Bool.false_and]
def varZ (n : Int) : List UInt8 := varN n.toNat
theorem varZ_len {n : Int} (h : n ≤ 17179869184) : (varZ n).length ≤ 5 := varN_len _ (by omega)
theorem byteE_bsA {l : List UInt8} : byteE (bsA l) = l.map cY := rfl
theorem map_cY_app {a b : List UInt8} : a.map cY ++ b.map cY = (a ++ b).map cY := by rw [List.map_append]
theorem map_cI_two {xs : List Int} {a b : Int} : xs.map cI ++ [[.int .i64 a], [.int .i64 b]] = (xs ++ [a, b]).map cI := by simp
theorem seg_two {a b : List AV} : seg [a, b] 0 2 = [a, b] := rfl
def midF (ws : List Int) : List Int := ws.flatMap fun w => [s22 w, dC w]
theorem midF_cons {w : Int} {ws : List Int} : midF (w :: ws) = [s22 w, dC w] ++ midF ws := rfl
theorem midF_nil : midF [] = [] := rfl
theorem midF_len : ∀ {ws : List Int}, (midF ws).length = 2 * ws.length
  | [] => rfl
  | w :: ws => by rw [midF_cons, List.length_append, midF_len (ws := ws)]; simp only [List.length_cons, List.length_nil]; omega
def varsF (ns : List Int) : List UInt8 := ns.flatMap varZ
theorem varsF_app {a b : List Int} : varsF (a ++ b) = varsF a ++ varsF b := by simp [varsF]
theorem varsF_one {a : Int} : varsF [a] = varZ a := by simp [varsF]
theorem varsF_cons {a : Int} {b : List Int} : varsF (a :: b) = varZ a ++ varsF b := by simp [varsF]
theorem varsF_nil : varsF [] = [] := rfl
theorem varsF_len : ∀ {ns : List Int}, (∀ n ∈ ns, n ≤ 17179869184) → (varsF ns).length ≤ 5 * ns.length
  | [], _ => by simp [varsF]
  | n :: ns, h => by
    rw [varsF_cons, List.length_append, List.length_cons]
    have h1 := varZ_len (h n (by simp))
    have h2 := varsF_len (ns := ns) fun m hm => h m (by simp [hm])
    omega
theorem dec_bd {w : Int} (h : decOk w = true) : (0 ≤ s22 w ∧ s22 w ≤ 1000000000) ∧ (0 ≤ dC w ∧ dC w ≤ 1000000000) := by
  unfold decOk at h
  simp only [Bool.and_eq_true, decide_eq_true_eq] at h
  obtain ⟨h0, h1⟩ := h
  have hb := insOk_bd h1
  have h2 : dOp w ≤ 10 := hb.1.2
  unfold dOp at h2
  rw [Int.fdiv_eq_ediv_of_nonneg _ (by decide)] at h2
  unfold s22
  rw [Int.fdiv_eq_ediv_of_nonneg _ (by decide)]
  omega
theorem mid_bd {ws : List Int} (h : ∀ w ∈ ws, decOk w = true) : ∀ n ∈ midF ws, 0 ≤ n ∧ n ≤ 1000000000 := by
  intro n hn
  unfold midF at hn
  rw [List.mem_flatMap] at hn
  obtain ⟨w, hw, hn⟩ := hn
  have := dec_bd (h w hw)
  simp only [List.mem_cons, List.mem_nil_iff, or_false] at hn
  rcases hn with rfl | rfl
  · exact this.1
  · exact this.2
def numsF (x : DImage) : List Int := ((x.Text.length : Int) :: midF x.Text) ++ ((x.Starts.length : Int) :: x.Starts) ++ [x.Size]
theorem imageOk_parts {x : DImage} (h : imageOkF x = true) : (1 ≤ (x.Starts.length : Int) ∧ (x.Starts.length : Int) ≤ 4) ∧ (1 ≤ (x.Text.length : Int) ∧ (x.Text.length : Int) ≤ 800) ∧ (1 ≤ x.Size ∧ x.Size ≤ 100) ∧ stS x.Text.length none x.Starts = true ∧ (∀ w ∈ x.Text, decOk w = true) := by
  unfold imageOkF at h
  simp only [Bool.and_eq_true, decide_eq_true_eq, List.all_eq_true] at h
  refine ⟨h.1, h.2.1, h.2.2.1, h.2.2.2.1, fun w hw => ?_⟩
  have := h.2.2.2.2.1 w hw
  unfold wordB at this
  simp only [Bool.and_eq_true] at this
  exact this.1
theorem stS_bd {n : Int} : ∀ {p : Option Int} {xs : List Int}, stS n p xs = true → ∀ a ∈ xs, 0 ≤ a ∧ a ≤ n - 1
  | p, [], _, a, ha => by simp at ha
  | p, y :: ys, h, a, ha => by
    unfold stS at h
    simp only [Bool.and_eq_true, decide_eq_true_eq] at h
    rcases List.mem_cons.1 ha with rfl | ha
    · exact h.1
    · exact stS_bd h.2.2 a ha
theorem nums_bd {x : DImage} (h : imageOkF x = true) : ∀ n ∈ numsF x, 0 ≤ n ∧ n ≤ 1000000000 := by
  obtain ⟨h1, h2, h3, h4, h5⟩ := imageOk_parts h
  intro n hn
  unfold numsF at hn
  simp only [List.mem_append, List.mem_cons, List.mem_nil_iff, or_false] at hn
  rcases hn with ((rfl | hn) | (rfl | hn)) | rfl
  · omega
  · exact mid_bd h5 n hn
  · omega
  · have := stS_bd h4 n hn; omega
  · omega
theorem nums_len {x : DImage} : (numsF x).length = 2 * x.Text.length + x.Starts.length + 3 := by
  unfold numsF
  simp only [List.length_append, List.length_cons, List.length_nil, midF_len]; omega
def imageTextF (x : DImage) : List UInt8 × Bool := if imageOkF x = true then sealF (varsF (numsF x)) else ([], false)
theorem imageText_len (x : DImage) (h : imageOkF x = true) : (varsF (numsF x)).length ≤ 100000 := by
  have h1 := varsF_len (ns := numsF x) fun n hn => by have := nums_bd h n hn; omega
  rw [nums_len] at h1
  have := imageOk_parts h
  omega
theorem sem_spec_l01VarZ (n : Int) (h0 : 0 ≤ n) (hn : n ≤ 17179869184) : S_spec_l01Var.sem [.int .i64 n] = some (.str (bsA (varZ n)), []) := by
  have := sem_spec_l01Var n.toNat (by omega)
  rw [show ((n.toNat : Nat) : Int) = n by omega] at this
  exact this
theorem sem_impl_VarTextZ (n : Int) (h0 : 0 ≤ n) (hn : n ≤ 1000000000) : S_impl_VarText.sem [.int .i64 n] = some (.tup [.str (bsA (varZ n)), .bool true], []) := by
  have := sem_impl_VarText n.toNat (by omega)
  rw [show ((n.toNat : Nat) : Int) = n by omega] at this
  exact this
theorem loop0_spec_ImageText (x : DImage) (hlen : x.Text.length ≤ 800) (hx : ∀ w ∈ x.Text, decOk w = true) (s0 : List UInt8) (hs : s0.length ≤ 5) : loopV X_spec_ImageText 0 [1, 4, 5] [(1, [1, 4])] B0_spec_ImageText ⟨[(1, .ptr ⟨0, none, 0⟩ 3 0 0), (4, .str (bsA s0)), (5, .int .i64 0)], [some ⟨true, 0, 3, [[.tree 1 (x.Text.map cI), .tree 1 (x.Starts.map cI), .int .i64 x.Size]]⟩]⟩ = some (.exit 0, ⟨[(1, .ptr ⟨0, none, 0⟩ 3 0 0), (4, .str (bsA (s0 ++ varsF (midF x.Text))))], [some ⟨true, 0, 3, [[.tree 1 (x.Text.map cI), .tree 1 (x.Starts.map cI), .int .i64 x.Size]]⟩]⟩) := by
  refine loop_list x.Text (fun i (s : List UInt8) => s.length ≤ 5 + 10 * i) (fun i s => ⟨[(1, .ptr ⟨0, none, 0⟩ 3 0 0), (4, .str (bsA s)), (5, .int .i64 ((i : Nat) : Int))], [some ⟨true, 0, 3, [[.tree 1 (x.Text.map cI), .tree 1 (x.Starts.map cI), .int .i64 x.Size]]⟩]⟩) (fun rest s => some (.exit 0, ⟨[(1, .ptr ⟨0, none, 0⟩ 3 0 0), (4, .str (bsA (s ++ varsF (midF rest))))], [some ⟨true, 0, 3, [[.tree 1 (x.Text.map cI), .tree 1 (x.Starts.map cI), .int .i64 x.Size]]⟩]⟩)) ?_ ?_ s0 (by omega)
  · intro s _
    rw [loopV_by B0_spec_ImageText.eq_1]
    simp only [EG, EL, ↓reduceIte, Nat.reduceEqDiff, Nat.reduceAdd, Nat.reduceSub, Nat.reduceMul, Nat.reduceLeDiff, Nat.reduceLT, Int.reduceLT, Int.reduceLE, Int.reduceEq, Int.reduceToNat, reduceCtorEq, FB, int_lt_irrefl, midF_nil, varsF_nil]
  · rintro i hi0 y rest s rfl rfl hs ih
    have hi : (i : Int) < (x.Text.length : Int) := by omega
    have hg := getRow cI x.Text hi0
    have hd := dec_bd (hx _ (List.getElem_mem hi0))
    have v1 := varZ_len (n := s22 x.Text[i]) (by omega)
    have v2 := varZ_len (n := dC x.Text[i]) (by omega)
    have i1 := ih (s ++ (varZ (s22 x.Text[i]) ++ varZ (dC x.Text[i]))) (by simp only [List.length_append]; omega)
    rw [loopV_by B0_spec_ImageText.eq_1, midF_cons, varsF_app, varsF_cons, varsF_one]
    generalize x.Text[i] = w at hg hd v1 v2 i1 ⊢
    simp only [List.append_assoc] at i1
    have hc1 : s.length + (varZ (s22 w)).length ≤ 4611686018427387904 := by omega
    have hc2 : s.length + (varZ (s22 w)).length + (varZ (dC w)).length ≤ 4611686018427387904 := by omega
    simp (maxSteps := 10000000) (disch := first | assumption | omega) only [EG, EL, ↓reduceIte, Nat.reduceEqDiff, Nat.reduceAdd, Nat.reduceSub, Nat.reduceMul, Nat.reduceLeDiff, Nat.reduceLT, Int.reduceLT, Int.reduceLE, Int.reduceEq, Int.reduceToNat, reduceCtorEq, FB, ED, FT, cx_spec_ImageText, cl_spec_l01Var, sem_spec_l01VarZ, hi, hi0, hg, b22, bC, bsA_size, bsA_app, hc1, hc2, wrap_succ, List.append_assoc, i1]
theorem loop1_spec_ImageText (x : DImage) (hlen : x.Starts.length ≤ 4) (hx : ∀ w ∈ x.Starts, 0 ≤ w ∧ w ≤ 1000) (s0 : List UInt8) (hs : s0.length ≤ 100000) : loopV X_spec_ImageText 0 [1, 4, 6] [(3, [1, 4])] B1_spec_ImageText ⟨[(1, .ptr ⟨0, none, 0⟩ 3 0 0), (4, .str (bsA s0)), (6, .int .i64 0)], [some ⟨true, 0, 3, [[.tree 1 (x.Text.map cI), .tree 1 (x.Starts.map cI), .int .i64 x.Size]]⟩]⟩ = some (.exit 2, ⟨[(1, .ptr ⟨0, none, 0⟩ 3 0 0), (4, .str (bsA (s0 ++ varsF x.Starts)))], [some ⟨true, 0, 3, [[.tree 1 (x.Text.map cI), .tree 1 (x.Starts.map cI), .int .i64 x.Size]]⟩]⟩) := by
  refine loop_list x.Starts (fun i (s : List UInt8) => s.length ≤ 100000 + 10 * i) (fun i s => ⟨[(1, .ptr ⟨0, none, 0⟩ 3 0 0), (4, .str (bsA s)), (6, .int .i64 ((i : Nat) : Int))], [some ⟨true, 0, 3, [[.tree 1 (x.Text.map cI), .tree 1 (x.Starts.map cI), .int .i64 x.Size]]⟩]⟩) (fun rest s => some (.exit 2, ⟨[(1, .ptr ⟨0, none, 0⟩ 3 0 0), (4, .str (bsA (s ++ varsF rest)))], [some ⟨true, 0, 3, [[.tree 1 (x.Text.map cI), .tree 1 (x.Starts.map cI), .int .i64 x.Size]]⟩]⟩)) ?_ ?_ s0 (by omega)
  · intro s _
    rw [loopV_by B1_spec_ImageText.eq_1]
    simp only [EG, EL, ↓reduceIte, Nat.reduceEqDiff, Nat.reduceAdd, Nat.reduceSub, Nat.reduceMul, Nat.reduceLeDiff, Nat.reduceLT, Int.reduceLT, Int.reduceLE, Int.reduceEq, Int.reduceToNat, reduceCtorEq, FB, int_lt_irrefl, varsF_nil]
  · rintro i hi0 y rest s rfl rfl hs ih
    have hi : (i : Int) < (x.Starts.length : Int) := by omega
    have hg := getRow cI x.Starts hi0
    have hd := hx _ (List.getElem_mem hi0)
    have v1 := varZ_len (n := x.Starts[i]) (by omega)
    have i1 := ih (s ++ varZ x.Starts[i]) (by simp only [List.length_append]; omega)
    rw [loopV_by B1_spec_ImageText.eq_1, varsF_cons]
    generalize x.Starts[i] = w at hg hd v1 i1 ⊢
    simp only [List.append_assoc] at i1
    have hc1 : s.length + (varZ w).length ≤ 4611686018427387904 := by omega
    simp (maxSteps := 10000000) (disch := first | assumption | omega) only [EG, EL, ↓reduceIte, Nat.reduceEqDiff, Nat.reduceAdd, Nat.reduceSub, Nat.reduceMul, Nat.reduceLeDiff, Nat.reduceLT, Int.reduceLT, Int.reduceLE, Int.reduceEq, Int.reduceToNat, reduceCtorEq, FB, ED, FT, cx_spec_ImageText, cl_spec_l01Var, sem_spec_l01VarZ, hi, hi0, hg, bsA_size, bsA_app, hc1, wrap_succ, List.append_assoc, i1]
theorem sem_spec_ImageText (x : DImage) : S_spec_ImageText.sem [.agg (cImage x)] = some (.tup [.str (bsA (imageTextF x).1), .bool (imageTextF x).2], []) := by
  have hk := sem_spec_ImageOk x
  rw [sg_spec_ImageText, sem_go]
  unfold imageTextF
  cases h : imageOkF x
  · simp only [cImage, h] at hk
    simp (maxSteps := 10000000) (disch := first | assumption | omega) only [F_spec_ImageText, params, EG, EL, ↓reduceIte, Nat.reduceEqDiff, Nat.reduceAdd, Nat.reduceSub, Nat.reduceMul, Nat.reduceLeDiff, Nat.reduceLT, Int.reduceLT, Int.reduceLE, Int.reduceEq, Int.reduceToNat, reduceCtorEq, FB, ED, EF, FT, cx_spec_ImageText, cl_spec_ImageOk, hk, h, bsA_nil]
  · obtain ⟨h1, h2, h3, h4, h5⟩ := imageOk_parts h
    have hl := imageText_len x h
    have v0 := varZ_len (n := (x.Text.length : Int)) (by omega)
    have v1 := varZ_len (n := (x.Starts.length : Int)) (by omega)
    have v2 := varZ_len (n := x.Size) (by omega)
    have hm := varsF_len (ns := midF x.Text) fun n hn => by have := mid_bd h5 n hn; omega
    rw [midF_len] at hm
    have hst : ∀ w ∈ x.Starts, 0 ≤ w ∧ w ≤ 1000 := fun w hw => by have := stS_bd h4 w hw; omega
    have hms := varsF_len (ns := x.Starts) fun n hn => by have := hst n hn; omega
    have l0 := loop0_spec_ImageText x (by omega) h5 (varZ x.Text.length) (by omega)
    have l1 := loop1_spec_ImageText x (by omega) hst (varZ x.Text.length ++ varsF (midF x.Text) ++ varZ x.Starts.length) (by simp only [List.length_append]; omega)
    have e : varsF (numsF x) = varZ x.Text.length ++ varsF (midF x.Text) ++ varZ x.Starts.length ++ varsF x.Starts ++ varZ x.Size := by
      unfold numsF
      simp only [varsF_app, varsF_cons, varsF_nil, List.append_nil, List.append_assoc]
    simp only [List.append_assoc] at e l1
    rw [e] at hl ⊢
    simp only [cImage, h] at hk
    have ks := sem_spec_Sealed (varZ x.Text.length ++ (varsF (midF x.Text) ++ (varZ x.Starts.length ++ (varsF x.Starts ++ varZ x.Size)))) (by omega)
    have hc1 : (varZ (x.Text.length : Int)).length + (varsF (midF x.Text)).length + (varZ (x.Starts.length : Int)).length ≤ 4611686018427387904 := by omega
    have hc2 : (varZ (x.Text.length : Int)).length + ((varsF (midF x.Text)).length + ((varZ (x.Starts.length : Int)).length + (varsF x.Starts).length)) + (varZ x.Size).length ≤ 4611686018427387904 := by omega
    simp (maxSteps := 10000000) (disch := first | assumption | omega) only [F_spec_ImageText, params, EG, EL, ↓reduceIte, Nat.reduceEqDiff, Nat.reduceAdd, Nat.reduceSub, Nat.reduceMul, Nat.reduceLeDiff, Nat.reduceLT, Int.reduceLT, Int.reduceLE, Int.reduceEq, Int.reduceToNat, reduceCtorEq, FB, ED, EF, FT, cx_spec_ImageText, cl_spec_ImageOk, hk, h, cl_spec_l01Var, sem_spec_l01VarZ, l0, bsA_size, bsA_app, List.append_assoc, hc1, l1, hc2, cl_spec_Sealed, ks]
theorem loop0_impl_ImageText (x : DImage) (hlen : x.Text.length ≤ 800) (n0 : List Int) (hn : n0.length ≤ 5) : loopV X_impl_ImageText 0 [1, 4, 20, 21, 22] [(1, [1, 4])] B0_impl_ImageText ⟨[(1, .ptr ⟨0, none, 0⟩ 3 0 0), (4, .sl ⟨1, none, 0⟩ 1 0 n0.length), (20, .tree 1 (x.Text.map cI)), (21, .int .i64 (x.Text.length : Int)), (22, .int .i64 0)], [some ⟨true, 0, 3, [[.tree 1 (x.Text.map cI), .tree 1 (x.Starts.map cI), .int .i64 x.Size]]⟩, some ⟨false, 0, 1, n0.map cI⟩]⟩ = some (.exit 0, ⟨[(1, .ptr ⟨0, none, 0⟩ 3 0 0), (4, .sl ⟨1, none, 0⟩ 1 0 (n0 ++ midF x.Text).length)], [some ⟨true, 0, 3, [[.tree 1 (x.Text.map cI), .tree 1 (x.Starts.map cI), .int .i64 x.Size]]⟩, some ⟨false, 0, 1, (n0 ++ midF x.Text).map cI⟩]⟩) := by
  refine loop_list x.Text (fun i (s : List Int) => s.length ≤ 5 + 2 * i) (fun i s => ⟨[(1, .ptr ⟨0, none, 0⟩ 3 0 0), (4, .sl ⟨1, none, 0⟩ 1 0 s.length), (20, .tree 1 (x.Text.map cI)), (21, .int .i64 (x.Text.length : Int)), (22, .int .i64 ((i : Nat) : Int))], [some ⟨true, 0, 3, [[.tree 1 (x.Text.map cI), .tree 1 (x.Starts.map cI), .int .i64 x.Size]]⟩, some ⟨false, 0, 1, s.map cI⟩]⟩) (fun rest s => some (.exit 0, ⟨[(1, .ptr ⟨0, none, 0⟩ 3 0 0), (4, .sl ⟨1, none, 0⟩ 1 0 (s ++ midF rest).length)], [some ⟨true, 0, 3, [[.tree 1 (x.Text.map cI), .tree 1 (x.Starts.map cI), .int .i64 x.Size]]⟩, some ⟨false, 0, 1, (s ++ midF rest).map cI⟩]⟩)) ?_ ?_ n0 (by omega)
  · intro s _
    rw [loopV_by B0_impl_ImageText.eq_1]
    simp only [EG, EL, ↓reduceIte, Nat.reduceEqDiff, Nat.reduceAdd, Nat.reduceSub, Nat.reduceMul, Nat.reduceLeDiff, Nat.reduceLT, Int.reduceLT, Int.reduceLE, Int.reduceEq, Int.reduceToNat, reduceCtorEq, FB, int_lt_irrefl, midF_nil]
  · rintro i hi0 y rest s rfl rfl hs ih
    have hi : (i : Int) < (x.Text.length : Int) := by omega
    have hg := getRow cI x.Text hi0
    have i1 := ih (s ++ [s22 x.Text[i], dC x.Text[i]]) (by simp only [List.length_append, List.length_cons, List.length_nil]; omega)
    rw [loopV_by B0_impl_ImageText.eq_1, midF_cons]
    generalize x.Text[i] = w at hg i1 ⊢
    simp only [EG, EL, ↓reduceIte, Nat.reduceEqDiff, Nat.reduceAdd, Nat.reduceSub, Nat.reduceMul, Nat.reduceLeDiff, Nat.reduceLT, Int.reduceLT, Int.reduceLE, Int.reduceEq, Int.reduceToNat, reduceCtorEq, FB, List.append_assoc] at i1
    have hc1 : (s.length + 2) * 8 ≤ 70368744177664 := by omega
    simp (maxSteps := 10000000) (disch := first | assumption | omega) only [EG, EL, ↓reduceIte, Nat.reduceEqDiff, Nat.reduceAdd, Nat.reduceSub, Nat.reduceMul, Nat.reduceLeDiff, Nat.reduceLT, Int.reduceLT, Int.reduceLE, Int.reduceEq, Int.reduceToNat, reduceCtorEq, FB, ED, FT, cx_impl_ImageText, hi, hi0, hg, b22, bC, seg_two, map_cI_two, hc1, wrap_succ, List.append_assoc, i1]
theorem loop1_impl_ImageText (ns : List Int) (hlen : ns.length ≤ 10000) (hx : ∀ w ∈ ns, 0 ≤ w ∧ w ≤ 1000000000) : loopV X_impl_ImageText 0 [7, 47, 48, 49] [(3, [7])] B1_impl_ImageText ⟨[(7, .sl ⟨0, none, 0⟩ 1 0 0), (47, .sl ⟨1, none, 0⟩ 1 0 ns.length), (48, .int .i64 (ns.length : Int)), (49, .int .i64 0)], [some ⟨false, 0, 1, []⟩, some ⟨false, 0, 1, ns.map cI⟩]⟩ = some (.exit 2, ⟨[(7, .sl ⟨0, none, 0⟩ 1 0 (varsF ns).length)], [some ⟨false, 0, 1, (varsF ns).map cY⟩]⟩) := by
  refine loop_list ns (fun i (s : List UInt8) => s.length ≤ 5 * i) (fun i s => ⟨[(7, .sl ⟨0, none, 0⟩ 1 0 s.length), (47, .sl ⟨1, none, 0⟩ 1 0 ns.length), (48, .int .i64 (ns.length : Int)), (49, .int .i64 ((i : Nat) : Int))], [some ⟨false, 0, 1, s.map cY⟩, some ⟨false, 0, 1, ns.map cI⟩]⟩) (fun rest s => some (.exit 2, ⟨[(7, .sl ⟨0, none, 0⟩ 1 0 (s ++ varsF rest).length)], [some ⟨false, 0, 1, (s ++ varsF rest).map cY⟩]⟩)) ?_ ?_ [] (by simp)
  · intro s _
    rw [loopV_by B1_impl_ImageText.eq_1]
    simp only [EG, EL, ↓reduceIte, Nat.reduceEqDiff, Nat.reduceAdd, Nat.reduceSub, Nat.reduceMul, Nat.reduceLeDiff, Nat.reduceLT, Int.reduceLT, Int.reduceLE, Int.reduceEq, Int.reduceToNat, reduceCtorEq, FB, int_lt_irrefl, varsF_nil]
  · rintro i hi0 y rest s rfl rfl hs ih
    have hi : (i : Int) < (ns.length : Int) := by omega
    have hg := getRow cI ns hi0
    have hd := hx _ (List.getElem_mem hi0)
    have v1 := varZ_len (n := ns[i]) (by omega)
    have i1 := ih (s ++ varZ ns[i]) (by simp only [List.length_append]; omega)
    rw [loopV_by B1_impl_ImageText.eq_1, varsF_cons]
    generalize ns[i] = w at hg hd v1 i1 ⊢
    simp only [EG, EL, ↓reduceIte, Nat.reduceEqDiff, Nat.reduceAdd, Nat.reduceSub, Nat.reduceMul, Nat.reduceLeDiff, Nat.reduceLT, Int.reduceLT, Int.reduceLE, Int.reduceEq, Int.reduceToNat, reduceCtorEq, FB, List.append_assoc] at i1
    have hc1 : (s.length + (varZ w).length) * 1 ≤ 70368744177664 := by omega
    have hc2 : s.length + (varZ w).length ≤ 70368744177664 := by omega
    simp (maxSteps := 10000000) (disch := first | assumption | omega) only [EG, EL, ↓reduceIte, Nat.reduceEqDiff, Nat.reduceAdd, Nat.reduceSub, Nat.reduceMul, Nat.reduceLeDiff, Nat.reduceLT, Int.reduceLT, Int.reduceLE, Int.reduceEq, Int.reduceToNat, reduceCtorEq, FB, ED, FT, cx_impl_ImageText, cl_impl_VarText, sem_impl_VarTextZ, hi, hi0, hg, byteE_bsA, map_cY_app, Nat.mul_one, hc1, hc2, wrap_succ, List.append_assoc, i1]
theorem sem_impl_ImageText (x : DImage) : S_impl_ImageText.sem [.agg (cImage x)] = some (.tup [.str (bsA (imageTextF x).1), .bool (imageTextF x).2], []) := by
  have hk := sem_impl_ImageOk x
  rw [sg_impl_ImageText, sem_go]
  unfold imageTextF
  cases h : imageOkF x
  · simp only [cImage, h] at hk
    simp (maxSteps := 10000000) (disch := first | assumption | omega) only [F_impl_ImageText, params, EG, EL, ↓reduceIte, Nat.reduceEqDiff, Nat.reduceAdd, Nat.reduceSub, Nat.reduceMul, Nat.reduceLeDiff, Nat.reduceLT, Int.reduceLT, Int.reduceLE, Int.reduceEq, Int.reduceToNat, reduceCtorEq, FB, ED, EF, FT, cx_impl_ImageText, cl_impl_ImageOk, hk, h, bsA_nil]
  · obtain ⟨h1, h2, h3, h4, h5⟩ := imageOk_parts h
    have hl := imageText_len x h
    have hb := nums_bd h
    have hn := nums_len (x := x)
    have l0 := loop0_impl_ImageText x (by omega) [(x.Text.length : Int)] (by simp)
    have l1 := loop1_impl_ImageText (numsF x) (by omega) hb
    have e : numsF x = ([(x.Text.length : Int)] ++ midF x.Text) ++ [(x.Starts.length : Int)] ++ x.Starts ++ [x.Size] := by
      unfold numsF; simp
    rw [e] at l1 hl hn ⊢
    simp only [cImage, h] at hk
    generalize [(x.Text.length : Int)] ++ midF x.Text = A at l0 l1 hl hn ⊢
    have sg1 : seg ((A ++ [(x.Starts.length : Int)]).map cI) 0 (A.length + 1) = (A ++ [(x.Starts.length : Int)]).map cI := by
      unfold seg; rw [List.drop_zero, List.take_of_length_le (by simp)]
    have sg2 : seg ((A ++ [(x.Starts.length : Int)] ++ x.Starts).map cI) 0 (A.length + 1 + x.Starts.length) = (A ++ [(x.Starts.length : Int)] ++ x.Starts).map cI := by
      unfold seg; rw [List.drop_zero, List.take_of_length_le (by simp; omega)]
    have sg3 : seg ((A ++ [(x.Starts.length : Int)] ++ x.Starts ++ [x.Size]).map cI) 0 (A.length + 1 + x.Starts.length + 1) = (A ++ [(x.Starts.length : Int)] ++ x.Starts ++ [x.Size]).map cI := by
      unfold seg; rw [List.drop_zero, List.take_of_length_le (by simp; omega)]
    have ks := sem_impl_Sealed (varsF (A ++ [(x.Starts.length : Int)] ++ x.Starts ++ [x.Size])) (by omega)
    simp only [List.length_append, List.length_cons, List.length_nil] at hn l1
    have hc1 : (A.length + 1) * 8 ≤ 70368744177664 := by omega
    have hc2 : (A.length + 1 + x.Starts.length) * 8 ≤ 70368744177664 := by omega
    have hc3 : (A.length + 1 + x.Starts.length + 1) * 8 ≤ 70368744177664 := by omega
    simp only [EG, EL, ↓reduceIte, Nat.reduceEqDiff, Nat.reduceAdd, Nat.reduceSub, Nat.reduceMul, Nat.reduceLeDiff, Nat.reduceLT, Int.reduceLT, Int.reduceLE, Int.reduceEq, Int.reduceToNat, reduceCtorEq, FB] at l0 l1 sg1 sg2 sg3
    simp (maxSteps := 10000000) (disch := first | assumption | omega) only [F_impl_ImageText, params, EG, EL, ↓reduceIte, Nat.reduceEqDiff, Nat.reduceAdd, Nat.reduceSub, Nat.reduceMul, Nat.reduceLeDiff, Nat.reduceLT, Int.reduceLT, Int.reduceLE, Int.reduceEq, Int.reduceToNat, reduceCtorEq, FB, ED, EF, FT, cx_impl_ImageText, cl_impl_ImageOk, hk, h, l0, map_cI_snoc, map_cI_app, sg1, sg2, sg3, hc1, hc2, hc3, l1, cl_impl_Sealed, ks, bytesOf_map, bsA_mk]
/-! numbers read out of bytes -/
def scanB : Nat → List UInt8 → Option (List UInt8)
  | 0, _ => none
  | _ + 1, [] => none
  | n + 1, b :: r => if b.toNat < 128 then some [b] else (scanB n r).map (b :: ·)
def valB : List UInt8 → Nat
  | [] => 0
  | b :: r => b.toNat % 128 + 128 * valB r
theorem valB_app : ∀ {p : List UInt8} {b : UInt8}, valB (p ++ [b]) = valB p + 128 ^ p.length * (b.toNat % 128)
  | [], b => by simp [valB]
  | a :: p, b => by
    simp only [List.cons_append, valB, valB_app (p := p), List.length_cons, Nat.pow_succ, Nat.mul_add]
    have : 128 * (128 ^ p.length * (b.toNat % 128)) = 128 ^ p.length * 128 * (b.toNat % 128) := by rw [Nat.mul_comm (128 ^ p.length) 128, Nat.mul_assoc]
    omega
theorem valB_lt : ∀ {p : List UInt8}, valB p < 128 ^ p.length
  | [] => by simp [valB]
  | a :: p => by
    have := valB_lt (p := p)
    simp only [valB, List.length_cons, Nat.pow_succ]
    omega
theorem scanB_some : ∀ {n : Nat} {l bs : List UInt8}, scanB n l = some bs → (∃ p b, bs = p ++ [b] ∧ b.toNat < 128 ∧ ∀ x ∈ p, 128 ≤ x.toNat) ∧ bs = l.take bs.length ∧ bs.length ≤ n
  | 0, _, _, h => by simp [scanB] at h
  | n + 1, [], _, h => by simp [scanB] at h
  | n + 1, b :: r, bs, h => by
    unfold scanB at h
    split at h
    · rename_i hb
      simp only [Option.some.injEq] at h
      subst h
      exact ⟨⟨[], b, rfl, hb, by simp⟩, by simp, by simp⟩
    · rename_i hb
      simp only [Option.map_eq_some_iff] at h
      obtain ⟨cs, h1, rfl⟩ := h
      obtain ⟨⟨p, c, h2, h3, h4⟩, h5, h6⟩ := scanB_some h1
      refine ⟨⟨b :: p, c, by rw [h2]; rfl, h3, fun x hx => ?_⟩, ?_, by simp only [List.length_cons]; omega⟩
      · rcases List.mem_cons.1 hx with rfl | hx
        · omega
        · exact h4 x hx
      · simp only [List.length_cons, List.take_succ_cons]; rw [← h5]
theorem ofNat_hi {b : UInt8} (h : 128 ≤ b.toNat) : UInt8.ofNat (b.toNat % 128 + 128) = b := by
  have h2 := b.toNat_lt
  have e : b.toNat % 128 + 128 = b.toNat := by omega
  rw [e]; simp
/-- What is as long as its number's text, is that text. -/
theorem varN_val : ∀ {p : List UInt8} {b : UInt8}, (∀ x ∈ p, 128 ≤ x.toNat) → b.toNat < 128 → (varN (valB (p ++ [b]))).length = (p ++ [b]).length → varN (valB (p ++ [b])) = p ++ [b]
  | [], b, _, hb, _ => by
    have e : valB ([] ++ [b]) = b.toNat := by simp only [List.nil_append, valB]; omega
    rw [e]
    unfold varN
    rw [varI_lo (by omega), varL_lo (by omega)]
    simp
  | a :: p, b, hp, hb, hl => by
    have ha := hp a (by simp)
    have e : valB (a :: p ++ [b]) = a.toNat % 128 + 128 * valB (p ++ [b]) := rfl
    rw [e] at hl ⊢
    by_cases h : 127 < a.toNat % 128 + 128 * valB (p ++ [b])
    · have h1 : (a.toNat % 128 + 128 * valB (p ++ [b])) % 128 = a.toNat % 128 := by omega
      have h2 : (a.toNat % 128 + 128 * valB (p ++ [b])) / 128 = valB (p ++ [b]) := by omega
      have key : varN (a.toNat % 128 + 128 * valB (p ++ [b])) = a :: varN (valB (p ++ [b])) := by
        unfold varN
        rw [varI_hi h, varL_hi h, h1, h2, ofNat_hi ha]
        rfl
      rw [key] at hl ⊢
      simp only [List.cons_append, List.length_cons] at hl ⊢
      rw [varN_val (fun x hx => hp x (by simp [hx])) hb (by omega)]
    · exfalso
      unfold varN at hl
      rw [varI_lo h] at hl
      simp at hl
theorem bsA_extract {l : List UInt8} {a n : Nat} : (bsA l).extract a (a + n) = bsA ((l.drop a).take n) := by
  apply ByteArray.ext
  simp only [bsA, ByteArray.data_extract]
  rw [← Array.toList_inj]
  simp
theorem pow128 {j : Nat} (h : j ≤ 4) : 128 ^ j ≤ 268435456 := Nat.le_trans (Nat.pow_le_pow_right (by decide) h) (by decide)
theorem bshl {x : Int} {k : Nat} (h : k < 64) : bin .shl (.int .i64 x) (.int .i64 (k : Int)) = some (.int .i64 (IntKind.wrap .i64 (x * 2 ^ k))) := by
  have e : min ((k : Int)).toNat IntKind.i64.bits = k := by
    have : IntKind.i64.bits = 64 := by decide
    rw [this, Int.toNat_natCast]; omega
  have h0 : ¬ ((k : Int) < 0) := by omega
  simp only [bin, h0, if_false, e]
/-- The number at a place, the place behind it, whether there is one. -/
def rvR (a : Nat) : Option (List UInt8) → Int × Int × Bool
  | some bs => if valB bs ≤ 1000000000 ∧ (varN (valB bs)).length = bs.length then ((valB bs : Int), ((a + bs.length : Nat) : Int), true) else (0, 0, false)
  | none => (0, 0, false)
def rvF (l : List UInt8) (at_ : Int) : Int × Int × Bool := if 0 ≤ at_ ∧ at_ ≤ (l.length : Int) then rvR at_.toNat (scanB 5 (l.drop at_.toNat)) else (0, 0, false)
theorem scan_nil {n : Nat} : scanB n [] = none := by cases n <;> rfl
theorem drop_get {l : List UInt8} {i : Nat} (h : i < l.length) : l.drop i = l[i] :: l.drop (i + 1) := List.drop_eq_getElem_cons h
theorem take_snoc {l : List UInt8} {a j : Nat} (h : a + j < l.length) : (l.drop a).take (j + 1) = (l.drop a).take j ++ [l[a + j]] := by
  rw [List.take_succ_eq_append_getElem (by rw [List.length_drop]; omega)]
  simp
def rvOut (e : Nat) (a : Nat) (p : List UInt8) : Option (List UInt8) → Option (Ex × St)
  | some bs => some (.ret, ⟨[(4, .int .i64 (rvR a (some (p ++ bs))).1), (5, .int .i64 (rvR a (some (p ++ bs))).2.1), (6, .bool (rvR a (some (p ++ bs))).2.2)], []⟩)
  | none => some (.exit e, ⟨[], []⟩)
theorem rvOut_map {e a : Nat} {p : List UInt8} {b : UInt8} {o : Option (List UInt8)} : rvOut e a p (o.map (b :: ·)) = rvOut e a (p ++ [b]) o := by
  cases o with
  | none => rfl
  | some bs => simp only [Option.map_some, rvOut, List.append_assoc, List.singleton_append]
set_option maxHeartbeats 4000000 in
theorem loop_spec_ReadVar (l : List UInt8) (hl : l.length ≤ 1099511627776) (a : Nat) (ha : a ≤ l.length) (xs : List Unit) (hxs : xs.length = 5) : loopV X_spec_ReadVar 0 [0, 1, 7, 8, 9] [(1, []), (0, [4, 5, 6])] B0_spec_ReadVar ⟨[(0, .str (bsA l)), (1, .int .i64 (a : Int)), (7, .int .i64 0), (8, .int .i64 1), (9, .int .i64 (a : Int))], []⟩ = rvOut 0 a [] (scanB xs.length (l.drop a)) := by
  have h := loop_list xs (ctx := X_spec_ReadVar) (base := 0) (keep := [0, 1, 7, 8, 9]) (keepx := [(1, []), (0, [4, 5, 6])]) (body := B0_spec_ReadVar) (fun j (p : List UInt8) => p = (l.drop a).take j ∧ p.length = j ∧ a + j ≤ l.length ∧ ∀ x ∈ p, 128 ≤ x.toNat) (fun j p => ⟨[(0, .str (bsA l)), (1, .int .i64 (a : Int)), (7, .int .i64 (valB p : Int)), (8, .int .i64 ((128 ^ j : Nat) : Int)), (9, .int .i64 ((a + j : Nat) : Int))], []⟩) (fun rest p => rvOut 0 a p (scanB rest.length (l.drop (a + p.length)))) ?_ ?_ [] ⟨by simp, rfl, by omega, by simp⟩
  · simpa [valB] using h
  · rintro p ⟨hp1, hp2, hp3, hp4⟩
    have h5 : ¬ ((a + xs.length : Nat) : Int) < (a : Int) + 5 := by omega
    have hw : IntKind.wrap .i64 ((a : Int) + 5) = (a : Int) + 5 := wrapI (by omega) (by omega)
    rw [loopV_by B0_spec_ReadVar.eq_1]
    by_cases hlen : ((a + xs.length : Nat) : Int) < (l.length : Int)
    all_goals simp (maxSteps := 10000000) (disch := first | assumption | omega) only [EG, EL, ↓reduceIte, Nat.reduceEqDiff, Nat.reduceAdd, Nat.reduceSub, Nat.reduceMul, Nat.reduceLeDiff, Nat.reduceLT, Int.reduceLT, Int.reduceLE, Int.reduceEq, Int.reduceToNat, reduceCtorEq, FB, ED, FT, cx_spec_ReadVar, bsA_size, hlen, hw, h5, scanB, rvOut, decide_true, decide_false]
  · rintro j hj y rest p rfl rfl ⟨hp1, hp2, hp3, hp4⟩ ih
    have h5 : ((a + j : Nat) : Int) < (a : Int) + 5 := by omega
    have hw : IntKind.wrap .i64 ((a : Int) + 5) = (a : Int) + 5 := wrapI (by omega) (by omega)
    rw [loopV_by B0_spec_ReadVar.eq_1, hp2]
    by_cases hlen : a + j < l.length
    · have hlen' : ((a + j : Nat) : Int) < (l.length : Int) := by omega
      have hg := bsA_get hlen
      have hb := l[a + j].toNat_lt
      have hsn := take_snoc hlen
      rw [drop_get hlen, List.length_cons]
      have hpw := pow128 (j := j) (by omega)
      have hps : 128 ^ (j + 1) = 128 ^ j * 128 := Nat.pow_succ ..
      have hv := @valB_lt p
      rw [hp2] at hv
      have hva := @valB_app p l[a + j]
      rw [hp2] at hva
      rw [← hp1] at hsn
      have hx : (bsA l).extract a (a + (j + 1)) = bsA (p ++ [l[a + j]]) := by rw [bsA_extract, hsn]
      have hpl : (p ++ [l[a + j]]).length = j + 1 := by simp [hp2]
      have i1 := ih (p ++ [l[a + j]])
      generalize l[a + j] = b at hg hb hsn hva hx hpl i1 ⊢
      have hm2 : 128 ^ j * (b.toNat % 128) ≤ 268435456 * 127 := Nat.mul_le_mul hpw (by omega)
      have hwb : IntKind.wrap .i64 (b.toNat : Int) = (b.toNat : Int) := wrapI (by omega) (by omega)
      have e1 : IntKind.wrap .i64 (Int.tmod (b.toNat : Int) 128 * ((128 ^ j : Nat) : Int)) = ((128 ^ j * (b.toNat % 128) : Nat) : Int) := by
        rw [tmod_cast]
        have : ((b.toNat % 128 : Nat) : Int) * ((128 ^ j : Nat) : Int) = ((128 ^ j * (b.toNat % 128) : Nat) : Int) := by rw [Nat.mul_comm]; exact (Int.natCast_mul _ _).symm
        rw [this]
        exact wrapI (by omega) (by omega)
      have e2 : IntKind.wrap .i64 ((valB p : Int) + ((128 ^ j * (b.toNat % 128) : Nat) : Int)) = ((valB (p ++ [b]) : Nat) : Int) := by
        rw [hva, ← Int.natCast_add]
        exact wrapI (by omega) (by omega)
      have e3 : IntKind.wrap .i64 (((128 ^ j : Nat) : Int) * 128) = ((128 ^ (j + 1) : Nat) : Int) := by
        rw [hps]
        have : ((128 ^ j : Nat) : Int) * 128 = ((128 ^ j * 128 : Nat) : Int) := by omega
        rw [this]
        exact wrapI (by omega) (by omega)
      have e4 : IntKind.wrap .i64 (((a + j : Nat) : Int) + 1) = ((a + (j + 1) : Nat) : Int) := by rw [wrapI (by omega) (by omega)]; omega
      have hvb : valB (p ++ [b]) ≤ 17179869184 * 4 := by omega
      by_cases hlo : b.toNat < 128
      · have hlo' : ((b.toNat : Nat) : Int) < 128 := by omega
        have hsc : scanB (List.drop (j + 1) xs).length.succ (b :: l.drop (a + j + 1)) = some [b] := by simp [scanB, hlo]
        simp only [Nat.succ_eq_add_one] at hsc
        rw [hsc]
        simp only [rvOut, rvR]
        by_cases hbig : valB (p ++ [b]) ≤ 1000000000
        · have hbig' : ¬ (1000000000 : Int) < ((valB (p ++ [b]) : Nat) : Int) := by omega
          have hsem := sem_spec_l01Var (valB (p ++ [b])) (by omega)
          have hr1 : (0 : Int) ≤ (a : Int) ∧ (a : Int) ≤ ((a + (j + 1) : Nat) : Int) := by omega
          have hr2 : (0 : Int) ≤ ((a + (j + 1) : Nat) : Int) ∧ ((a + (j + 1) : Nat) : Int) ≤ (l.length : Int) := by omega
          by_cases heq : (varN (valB (p ++ [b]))).length = (p ++ [b]).length
          · have hveq := varN_val hp4 hlo heq
            have hne : (varN (valB (p ++ [b])) = p ++ [b]) = True := eq_true hveq
            have hfin : ((a + (p.length + 1) : Nat) : Int) = ((a + (j + 1) : Nat) : Int) := by rw [hp2]
            have heq' : ((varN (valB (p ++ [b]))).length = p.length + 1) = True := eq_true (by simpa using heq)
            simp (maxSteps := 10000000) (disch := first | assumption | omega) only [EG, EL, ↓reduceIte, Nat.reduceEqDiff, Nat.reduceAdd, Nat.reduceSub, Nat.reduceMul, Nat.reduceLeDiff, Nat.reduceLT, Int.reduceLT, Int.reduceLE, Int.reduceEq, Int.reduceToNat, reduceCtorEq, FB, ED, FT, cx_spec_ReadVar, bsA_size, hlen, hlen', hw, h5, hg, hwb, e1, e2, e3, e4, hlo, hlo', gt_iff_lt, hbig, hbig', cl_spec_l01Var, hsem, hr1, hr2, hx, bsA_inj, hne, heq', hfin, decide_true, decide_false]
          · have hne : (varN (valB (p ++ [b])) = p ++ [b]) = False := eq_false fun e => heq (by rw [e])
            have heq' : ((varN (valB (p ++ [b]))).length = p.length + 1) = False := eq_false (by simpa using heq)
            simp (maxSteps := 10000000) (disch := first | assumption | omega) only [EG, EL, ↓reduceIte, Nat.reduceEqDiff, Nat.reduceAdd, Nat.reduceSub, Nat.reduceMul, Nat.reduceLeDiff, Nat.reduceLT, Int.reduceLT, Int.reduceLE, Int.reduceEq, Int.reduceToNat, reduceCtorEq, FB, ED, FT, cx_spec_ReadVar, bsA_size, hlen, hlen', hw, h5, hg, hwb, e1, e2, e3, e4, hlo, hlo', gt_iff_lt, hbig, hbig', cl_spec_l01Var, hsem, hr1, hr2, hx, bsA_inj, hne, heq', decide_true, decide_false]
        · have hbig' : (1000000000 : Int) < ((valB (p ++ [b]) : Nat) : Int) := by omega
          simp (maxSteps := 10000000) (disch := first | assumption | omega) only [EG, EL, ↓reduceIte, Nat.reduceEqDiff, Nat.reduceAdd, Nat.reduceSub, Nat.reduceMul, Nat.reduceLeDiff, Nat.reduceLT, Int.reduceLT, Int.reduceLE, Int.reduceEq, Int.reduceToNat, reduceCtorEq, FB, ED, FT, cx_spec_ReadVar, bsA_size, hlen, hlen', hw, h5, hg, hwb, e1, e2, e3, e4, hlo, hlo', gt_iff_lt, hbig, hbig', decide_true, decide_false]
      · have hlo' : ¬ ((b.toNat : Nat) : Int) < 128 := by omega
        have i2 := i1 ⟨hsn.symm, hpl, by omega, fun x hx => by
          rcases List.mem_append.1 hx with hx | hx
          · exact hp4 x hx
          · rw [List.mem_singleton] at hx; rw [hx]; omega⟩
        rw [hpl] at i2
        have hsc : scanB (List.drop (j + 1) xs).length.succ (b :: l.drop (a + j + 1)) = (scanB (List.drop (j + 1) xs).length (l.drop (a + j + 1))).map (b :: ·) := by simp [scanB, hlo]
        simp only [Nat.succ_eq_add_one] at hsc
        rw [hsc, rvOut_map, show a + j + 1 = a + (j + 1) by omega]
        simp (maxSteps := 10000000) (disch := first | assumption | omega) only [EG, EL, ↓reduceIte, Nat.reduceEqDiff, Nat.reduceAdd, Nat.reduceSub, Nat.reduceMul, Nat.reduceLeDiff, Nat.reduceLT, Int.reduceLT, Int.reduceLE, Int.reduceEq, Int.reduceToNat, reduceCtorEq, FB, ED, FT, cx_spec_ReadVar, bsA_size, hlen, hlen', hw, h5, hg, hwb, e1, e2, e3, e4, hlo, hlo', gt_iff_lt, i2, decide_true, decide_false]
    · have hlen' : ¬ ((a + j : Nat) : Int) < (l.length : Int) := by omega
      have hnil : l.drop (a + j) = [] := List.drop_eq_nil_of_le (by omega)
      rw [hnil, scan_nil]
      simp (maxSteps := 10000000) (disch := first | assumption | omega) only [EG, EL, ↓reduceIte, Nat.reduceEqDiff, Nat.reduceAdd, Nat.reduceSub, Nat.reduceMul, Nat.reduceLeDiff, Nat.reduceLT, Int.reduceLT, Int.reduceLE, Int.reduceEq, Int.reduceToNat, reduceCtorEq, FB, ED, FT, cx_spec_ReadVar, bsA_size, hlen', rvOut, decide_true, decide_false]
theorem sem_spec_ReadVar (l : List UInt8) (hl : l.length ≤ 1099511627776) (at_ : Int) : S_spec_ReadVar.sem [.str (bsA l), .int .i64 at_] = some (.tup [.int .i64 (rvF l at_).1, .int .i64 (rvF l at_).2.1, .bool (rvF l at_).2.2], []) := by
  rw [sg_spec_ReadVar, sem_go]
  unfold rvF
  by_cases h : 0 ≤ at_ ∧ at_ ≤ (l.length : Int)
  · obtain ⟨a, rfl⟩ : ∃ a : Nat, at_ = (a : Int) := ⟨at_.toNat, by omega⟩
    have lp := loop_spec_ReadVar l hl a (by omega) (List.replicate 5 ()) (by simp)
    rw [List.length_replicate] at lp
    cases hs : scanB 5 (l.drop a) with
    | none =>
      rw [hs] at lp
      simp only [rvOut] at lp
      simp (maxSteps := 10000000) (disch := first | assumption | omega) only [F_spec_ReadVar, params, EG, EL, ↓reduceIte, Nat.reduceEqDiff, Nat.reduceAdd, Nat.reduceSub, Nat.reduceMul, Nat.reduceLeDiff, Nat.reduceLT, Int.reduceLT, Int.reduceLE, Int.reduceEq, Int.reduceToNat, reduceCtorEq, FB, ED, FT, cx_spec_ReadVar, bsA_size, cl_spec_l01In, sem_spec_l01In, h, decide_true, lp, Int.toNat_natCast, hs, rvR]
    | some bs =>
      rw [hs] at lp
      simp only [rvOut, List.nil_append] at lp
      generalize hr : rvR a (some bs) = r at lp
      simp (maxSteps := 10000000) (disch := first | assumption | omega) only [F_spec_ReadVar, params, EG, EL, ↓reduceIte, Nat.reduceEqDiff, Nat.reduceAdd, Nat.reduceSub, Nat.reduceMul, Nat.reduceLeDiff, Nat.reduceLT, Int.reduceLT, Int.reduceLE, Int.reduceEq, Int.reduceToNat, reduceCtorEq, FB, ED, FT, cx_spec_ReadVar, bsA_size, cl_spec_l01In, sem_spec_l01In, h, decide_true, lp, Int.toNat_natCast, hs, hr]
  · simp (maxSteps := 10000000) (disch := first | assumption | omega) only [F_spec_ReadVar, params, EG, EL, ↓reduceIte, Nat.reduceEqDiff, Nat.reduceAdd, Nat.reduceSub, Nat.reduceMul, Nat.reduceLeDiff, Nat.reduceLT, Int.reduceLT, Int.reduceLE, Int.reduceEq, Int.reduceToNat, reduceCtorEq, FB, ED, FT, cx_spec_ReadVar, bsA_size, cl_spec_l01In, sem_spec_l01In, h, decide_false]
theorem sem_impl_VarText_big (n : Nat) (hn : ¬ n ≤ 1000000000) : S_impl_VarText.sem [.int .i64 (n : Int)] = some (.tup [.str (bsA []), .bool false], []) := by
  have h0 : ¬ ((n : Int) ≤ 1000000000) := by omega
  rw [sg_impl_VarText, sem_go]
  simp (maxSteps := 10000000) (disch := first | assumption | omega) only [F_impl_VarText, params, EG, EL, ↓reduceIte, Nat.reduceEqDiff, Nat.reduceAdd, Nat.reduceSub, Nat.reduceMul, Nat.reduceLeDiff, Nat.reduceLT, Int.reduceLT, Int.reduceLE, Int.reduceEq, Int.reduceToNat, reduceCtorEq, FB, ED, FT, cx_impl_VarText, cl_impl_within, sem_impl_within, h0, decide_false, bsA_nil]
set_option maxHeartbeats 4000000 in
theorem loop_impl_ReadVar (l : List UInt8) (hl : l.length ≤ 1099511627776) (a : Nat) (ha : a ≤ l.length) (xs : List Unit) (hxs : xs.length = 5) : loopV X_impl_ReadVar 0 [0, 1, 7, 8] [(1, []), (0, [4, 5, 6])] B0_impl_ReadVar ⟨[(0, .str (bsA l)), (1, .int .i64 (a : Int)), (7, .int .i64 0), (8, .int .i64 0)], []⟩ = rvOut 0 a [] (scanB xs.length (l.drop a)) := by
  have h := loop_list xs (ctx := X_impl_ReadVar) (base := 0) (keep := [0, 1, 7, 8]) (keepx := [(1, []), (0, [4, 5, 6])]) (body := B0_impl_ReadVar) (fun j (p : List UInt8) => p = (l.drop a).take j ∧ p.length = j ∧ a + j ≤ l.length ∧ ∀ x ∈ p, 128 ≤ x.toNat) (fun j p => ⟨[(0, .str (bsA l)), (1, .int .i64 (a : Int)), (7, .int .i64 (valB p : Int)), (8, .int .i64 ((j : Nat) : Int))], []⟩) (fun rest p => rvOut 0 a p (scanB rest.length (l.drop (a + p.length)))) ?_ ?_ [] ⟨by simp, rfl, by omega, by simp⟩
  · simpa [valB] using h
  · rintro p ⟨hp1, hp2, hp3, hp4⟩
    have h5 : ((xs.length : Nat) : Int) = 5 := by omega
    rw [loopV_by B0_impl_ReadVar.eq_1]
    simp (maxSteps := 10000000) (disch := first | assumption | omega) only [EG, EL, ↓reduceIte, Nat.reduceEqDiff, Nat.reduceAdd, Nat.reduceSub, Nat.reduceMul, Nat.reduceLeDiff, Nat.reduceLT, Int.reduceLT, Int.reduceLE, Int.reduceEq, Int.reduceToNat, reduceCtorEq, FB, ED, FT, cx_impl_ReadVar, bsA_size, h5, scanB, rvOut, decide_true, decide_false]
  · rintro j hj y rest p rfl rfl ⟨hp1, hp2, hp3, hp4⟩ ih
    have h5 : ((j : Nat) : Int) < 5 := by omega
    have hwa : IntKind.wrap .i64 ((a : Int) + (j : Int)) = ((a + j : Nat) : Int) := by rw [wrapI (by omega) (by omega)]; omega
    have hw7 : IntKind.wrap .i64 (7 * (j : Int)) = ((7 * j : Nat) : Int) := by rw [wrapI (by omega) (by omega)]; omega
    rw [loopV_by B0_impl_ReadVar.eq_1, hp2]
    by_cases hlen : a + j < l.length
    · have hlen' : ((a + j : Nat) : Int) < (l.length : Int) := by omega
      have hg := bsA_get hlen
      have hb := l[a + j].toNat_lt
      have hsn := take_snoc hlen
      rw [drop_get hlen, List.length_cons]
      have hpw := pow128 (j := j) (by omega)
      have hv := @valB_lt p
      rw [hp2] at hv
      have hva := @valB_app p l[a + j]
      rw [hp2] at hva
      rw [← hp1] at hsn
      have hpl : (p ++ [l[a + j]]).length = j + 1 := by simp [hp2]
      have i1 := ih (p ++ [l[a + j]])
      generalize l[a + j] = b at hg hb hsn hva hpl i1 ⊢
      have hm2 : 128 ^ j * (b.toNat % 128) ≤ 268435456 * 127 := Nat.mul_le_mul hpw (by omega)
      have hwb : IntKind.wrap .i64 (b.toNat : Int) = (b.toNat : Int) := wrapI (by omega) (by omega)
      have e1 : bin .shl (.int .i64 (Int.tmod (b.toNat : Int) 128)) (.int .i64 ((7 * j : Nat) : Int)) = some (.int .i64 ((128 ^ j * (b.toNat % 128) : Nat) : Int)) := by
        rw [bshl (by omega), tmod_cast]
        have e2 : (2 : Int) ^ (7 * j) = ((128 ^ j : Nat) : Int) := by rw [Int.pow_mul, Int.natCast_pow]; rfl
        rw [e2]
        have : ((b.toNat % 128 : Nat) : Int) * ((128 ^ j : Nat) : Int) = ((128 ^ j * (b.toNat % 128) : Nat) : Int) := by rw [Nat.mul_comm]; exact (Int.natCast_mul _ _).symm
        rw [this, wrapI (by omega) (by omega)]
      have e2 : IntKind.wrap .i64 ((valB p : Int) + ((128 ^ j * (b.toNat % 128) : Nat) : Int)) = ((valB (p ++ [b]) : Nat) : Int) := by
        rw [hva, ← Int.natCast_add]
        exact wrapI (by omega) (by omega)
      have e5 : IntKind.wrap .i64 ((j : Int) + 1) = ((j + 1 : Nat) : Int) := by rw [wrapI (by omega) (by omega)]; omega
      have e4 : IntKind.wrap .i64 (((a + j : Nat) : Int) + 1) = ((a + (j + 1) : Nat) : Int) := by rw [wrapI (by omega) (by omega)]; omega
      by_cases hlo : b.toNat < 128
      · have hlo' : ((b.toNat : Nat) : Int) < 128 := by omega
        have hsc : scanB (List.drop (j + 1) xs).length.succ (b :: l.drop (a + j + 1)) = some [b] := by simp [scanB, hlo]
        simp only [Nat.succ_eq_add_one] at hsc
        rw [hsc]
        simp only [rvOut, rvR]
        by_cases hbig : valB (p ++ [b]) ≤ 1000000000
        · have hsem := sem_impl_VarText (valB (p ++ [b])) hbig
          by_cases heq : (varN (valB (p ++ [b]))).length = (p ++ [b]).length
          · have hfin : ((a + (p.length + 1) : Nat) : Int) = ((a + (j + 1) : Nat) : Int) := by rw [hp2]
            have heq' : ((varN (valB (p ++ [b]))).length = p.length + 1) = True := eq_true (by simpa using heq)
            have hq2 : (((varN (valB (p ++ [b]))).length : Int) = ((j + 1 : Nat) : Int)) = True := eq_true (by rw [heq, hpl])
            simp (maxSteps := 10000000) (disch := first | assumption | omega) only [EG, EL, ↓reduceIte, Nat.reduceEqDiff, Nat.reduceAdd, Nat.reduceSub, Nat.reduceMul, Nat.reduceLeDiff, Nat.reduceLT, Int.reduceLT, Int.reduceLE, Int.reduceEq, Int.reduceToNat, reduceCtorEq, FB, ED, FT, cx_impl_ReadVar, bsA_size, hlen, hlen', hwa, hw7, h5, hg, hwb, e1, e2, e4, e5, hlo, hlo', hbig, cl_impl_VarText, hsem, heq', hq2, hfin, decide_true, decide_false]
          · have heq' : ((varN (valB (p ++ [b]))).length = p.length + 1) = False := eq_false (by simpa using heq)
            have hq2 : (((varN (valB (p ++ [b]))).length : Int) = ((j + 1 : Nat) : Int)) = False := eq_false (by rw [hpl] at heq; omega)
            simp (maxSteps := 10000000) (disch := first | assumption | omega) only [EG, EL, ↓reduceIte, Nat.reduceEqDiff, Nat.reduceAdd, Nat.reduceSub, Nat.reduceMul, Nat.reduceLeDiff, Nat.reduceLT, Int.reduceLT, Int.reduceLE, Int.reduceEq, Int.reduceToNat, reduceCtorEq, FB, ED, FT, cx_impl_ReadVar, bsA_size, hlen, hlen', hwa, hw7, h5, hg, hwb, e1, e2, e4, e5, hlo, hlo', hbig, cl_impl_VarText, hsem, heq', hq2, decide_true, decide_false]
        · have hsem := sem_impl_VarText_big (valB (p ++ [b])) hbig
          simp (maxSteps := 10000000) (disch := first | assumption | omega) only [EG, EL, ↓reduceIte, Nat.reduceEqDiff, Nat.reduceAdd, Nat.reduceSub, Nat.reduceMul, Nat.reduceLeDiff, Nat.reduceLT, Int.reduceLT, Int.reduceLE, Int.reduceEq, Int.reduceToNat, reduceCtorEq, FB, ED, FT, cx_impl_ReadVar, bsA_size, hlen, hlen', hwa, hw7, h5, hg, hwb, e1, e2, e4, e5, hlo, hlo', hbig, cl_impl_VarText, hsem, decide_true, decide_false]
      · have hlo' : ¬ ((b.toNat : Nat) : Int) < 128 := by omega
        have i2 := i1 ⟨hsn.symm, hpl, by omega, fun x hx => by
          rcases List.mem_append.1 hx with hx | hx
          · exact hp4 x hx
          · rw [List.mem_singleton] at hx; rw [hx]; omega⟩
        rw [hpl] at i2
        have hsc : scanB (List.drop (j + 1) xs).length.succ (b :: l.drop (a + j + 1)) = (scanB (List.drop (j + 1) xs).length (l.drop (a + j + 1))).map (b :: ·) := by simp [scanB, hlo]
        simp only [Nat.succ_eq_add_one] at hsc
        rw [hsc, rvOut_map, show a + j + 1 = a + (j + 1) by omega]
        simp (maxSteps := 10000000) (disch := first | assumption | omega) only [EG, EL, ↓reduceIte, Nat.reduceEqDiff, Nat.reduceAdd, Nat.reduceSub, Nat.reduceMul, Nat.reduceLeDiff, Nat.reduceLT, Int.reduceLT, Int.reduceLE, Int.reduceEq, Int.reduceToNat, reduceCtorEq, FB, ED, FT, cx_impl_ReadVar, bsA_size, hlen, hlen', hwa, hw7, h5, hg, hwb, e1, e2, e4, e5, hlo, hlo', i2, decide_true, decide_false]
    · have hlen' : ¬ ((a + j : Nat) : Int) < (l.length : Int) := by omega
      have hnil : l.drop (a + j) = [] := List.drop_eq_nil_of_le (by omega)
      rw [hnil, scan_nil]
      simp (maxSteps := 10000000) (disch := first | assumption | omega) only [EG, EL, ↓reduceIte, Nat.reduceEqDiff, Nat.reduceAdd, Nat.reduceSub, Nat.reduceMul, Nat.reduceLeDiff, Nat.reduceLT, Int.reduceLT, Int.reduceLE, Int.reduceEq, Int.reduceToNat, reduceCtorEq, FB, ED, FT, cx_impl_ReadVar, bsA_size, hlen', hwa, h5, rvOut, decide_true, decide_false]
theorem sem_impl_ReadVar (l : List UInt8) (hl : l.length ≤ 1099511627776) (at_ : Int) : S_impl_ReadVar.sem [.str (bsA l), .int .i64 at_] = some (.tup [.int .i64 (rvF l at_).1, .int .i64 (rvF l at_).2.1, .bool (rvF l at_).2.2], []) := by
  rw [sg_impl_ReadVar, sem_go]
  unfold rvF
  by_cases h : 0 ≤ at_ ∧ at_ ≤ (l.length : Int)
  · obtain ⟨a, rfl⟩ : ∃ a : Nat, at_ = (a : Int) := ⟨at_.toNat, by omega⟩
    have lp := loop_impl_ReadVar l hl a (by omega) (List.replicate 5 ()) (by simp)
    rw [List.length_replicate] at lp
    cases hs : scanB 5 (l.drop a) with
    | none =>
      rw [hs] at lp
      simp only [rvOut] at lp
      simp (maxSteps := 10000000) (disch := first | assumption | omega) only [F_impl_ReadVar, params, EG, EL, ↓reduceIte, Nat.reduceEqDiff, Nat.reduceAdd, Nat.reduceSub, Nat.reduceMul, Nat.reduceLeDiff, Nat.reduceLT, Int.reduceLT, Int.reduceLE, Int.reduceEq, Int.reduceToNat, reduceCtorEq, FB, ED, FT, cx_impl_ReadVar, bsA_size, cl_impl_within, sem_impl_within, h, decide_true, lp, Int.toNat_natCast, hs, rvR]
    | some bs =>
      rw [hs] at lp
      simp only [rvOut, List.nil_append] at lp
      generalize hr : rvR a (some bs) = r at lp
      simp (maxSteps := 10000000) (disch := first | assumption | omega) only [F_impl_ReadVar, params, EG, EL, ↓reduceIte, Nat.reduceEqDiff, Nat.reduceAdd, Nat.reduceSub, Nat.reduceMul, Nat.reduceLeDiff, Nat.reduceLT, Int.reduceLT, Int.reduceLE, Int.reduceEq, Int.reduceToNat, reduceCtorEq, FB, ED, FT, cx_impl_ReadVar, bsA_size, cl_impl_within, sem_impl_within, h, decide_true, lp, Int.toNat_natCast, hs, hr]
  · simp (maxSteps := 10000000) (disch := first | assumption | omega) only [F_impl_ReadVar, params, EG, EL, ↓reduceIte, Nat.reduceEqDiff, Nat.reduceAdd, Nat.reduceSub, Nat.reduceMul, Nat.reduceLeDiff, Nat.reduceLT, Int.reduceLT, Int.reduceLE, Int.reduceEq, Int.reduceToNat, reduceCtorEq, FB, ED, FT, cx_impl_ReadVar, bsA_size, cl_impl_within, sem_impl_within, h, decide_false]
theorem bsA_of (t : ByteArray) : ∃ l, t = bsA l := ⟨t.data.toList, by apply ByteArray.ext; simp [bsA]⟩
def unsF (l : List UInt8) : List UInt8 × Bool := if 4 ≤ l.length ∧ l.length - 4 ≤ 20000 ∧ l.drop (l.length - 4) = fourF (sumF (l.take (l.length - 4)) 4294967295) then (l.take (l.length - 4), true) else ([], false)
theorem unsF_len {l : List UInt8} : (unsF l).1.length ≤ 20000 := by
  unfold unsF
  split
  · simp only [List.length_take]; omega
  · simp
theorem bsA_take {l : List UInt8} {n : Nat} : (bsA l).extract 0 n = bsA (l.take n) := by
  have := @bsA_extract l 0 n
  simpa using this
theorem bsA_drop {l : List UInt8} {n : Nat} : (bsA l).extract n l.length = bsA (l.drop n) := by
  apply ByteArray.ext
  simp only [bsA, ByteArray.data_extract]
  rw [← Array.toList_inj]
  simp
  rw [List.take_of_length_le (by simp)]
theorem sem_spec_Unsealed (l : List UInt8) (hl : l.length ≤ 140737488351232) : S_spec_Unsealed.sem [.str (bsA l)] = some (.tup [.str (bsA (unsF l).1), .bool (unsF l).2], []) := by
  rw [sg_spec_Unsealed, sem_go]
  unfold unsF
  by_cases h4 : 4 ≤ l.length
  · obtain ⟨k, hk⟩ : ∃ k, l.length = k + 4 := ⟨l.length - 4, by omega⟩
    have hw : IntKind.wrap .i64 ((l.length : Int) - 4) = (k : Int) := by rw [wrapI (by omega) (by omega)]; omega
    have hk2 : l.length - 4 = k := by omega
    have hk0 : ¬ (k : Int) < 0 := by omega
    have hk1 : (k : Int) ≤ (l.length : Int) := by omega
    have hkn : k ≤ l.length := by omega
    rw [hk2]
    have hs := sem_spec_SumOf (l.take k) (by rw [List.length_take]; omega)
    by_cases h2 : k ≤ 20000
    · have h2' : ¬ (20000 : Int) < (k : Int) := by omega
      by_cases h3 : l.drop k = fourF (sumF (l.take k) 4294967295)
      · have h3' : (l.drop k = fourF (sumF (l.take k) 4294967295)) = True := eq_true h3
        simp (maxSteps := 10000000) (disch := first | assumption | omega) only [F_spec_Unsealed, params, EG, EL, ↓reduceIte, Nat.reduceEqDiff, Nat.reduceAdd, Nat.reduceSub, Nat.reduceMul, Nat.reduceLeDiff, Nat.reduceLT, Int.reduceLT, Int.reduceLE, Int.reduceEq, Int.reduceToNat, reduceCtorEq, FB, ED, FT, cx_spec_Unsealed, bsA_size, hw, hk0, hk1, hkn, gt_iff_lt, h4, h2, h2', bsA_take, bsA_drop, cl_spec_SumOf, hs, cl_spec_l02Four, sem_spec_l02Four, bsA_inj, h3', decide_true, decide_false]
      · have h3' : (l.drop k = fourF (sumF (l.take k) 4294967295)) = False := eq_false h3
        simp (maxSteps := 10000000) (disch := first | assumption | omega) only [F_spec_Unsealed, params, EG, EL, ↓reduceIte, Nat.reduceEqDiff, Nat.reduceAdd, Nat.reduceSub, Nat.reduceMul, Nat.reduceLeDiff, Nat.reduceLT, Int.reduceLT, Int.reduceLE, Int.reduceEq, Int.reduceToNat, reduceCtorEq, FB, ED, FT, cx_spec_Unsealed, bsA_size, hw, hk0, hk1, hkn, gt_iff_lt, h4, h2, h2', bsA_take, bsA_drop, cl_spec_SumOf, hs, cl_spec_l02Four, sem_spec_l02Four, bsA_inj, h3', bsA_nil, decide_true, decide_false]
    · have h2' : (20000 : Int) < (k : Int) := by omega
      simp (maxSteps := 10000000) (disch := first | assumption | omega) only [F_spec_Unsealed, params, EG, EL, ↓reduceIte, Nat.reduceEqDiff, Nat.reduceAdd, Nat.reduceSub, Nat.reduceMul, Nat.reduceLeDiff, Nat.reduceLT, Int.reduceLT, Int.reduceLE, Int.reduceEq, Int.reduceToNat, reduceCtorEq, FB, ED, FT, cx_spec_Unsealed, bsA_size, hw, hk0, hk1, hkn, gt_iff_lt, h4, h2, h2', bsA_nil, decide_true, decide_false]
  · have hw : IntKind.wrap .i64 ((l.length : Int) - 4) = (l.length : Int) - 4 := wrapI (by omega) (by omega)
    have hk0 : (l.length : Int) - 4 < 0 := by omega
    simp (maxSteps := 10000000) (disch := first | assumption | omega) only [F_spec_Unsealed, params, EG, EL, ↓reduceIte, Nat.reduceEqDiff, Nat.reduceAdd, Nat.reduceSub, Nat.reduceMul, Nat.reduceLeDiff, Nat.reduceLT, Int.reduceLT, Int.reduceLE, Int.reduceEq, Int.reduceToNat, reduceCtorEq, FB, ED, FT, cx_spec_Unsealed, bsA_size, hw, hk0, h4, bsA_nil, decide_true, decide_false]
theorem sem_impl_Unsealed (l : List UInt8) (hl : l.length ≤ 140737488351232) : S_impl_Unsealed.sem [.str (bsA l)] = some (.tup [.str (bsA (unsF l).1), .bool (unsF l).2], []) := by
  rw [sg_impl_Unsealed, sem_go]
  unfold unsF
  by_cases h4 : 4 ≤ l.length
  · obtain ⟨k, hk⟩ : ∃ k, l.length = k + 4 := ⟨l.length - 4, by omega⟩
    have hw : IntKind.wrap .i64 ((l.length : Int) - 4) = (k : Int) := by rw [wrapI (by omega) (by omega)]; omega
    have hk2 : l.length - 4 = k := by omega
    have h4' : ¬ (l.length : Int) < 4 := by omega
    have hk0 : (0 : Int) ≤ (k : Int) ∧ (k : Int) ≤ (l.length : Int) := by omega
    have hk1 : (k : Int) ≤ (l.length : Int) := by omega
    have hkn : k ≤ l.length := by omega
    rw [hk2]
    have htl : (l.take k).length = k := by rw [List.length_take]; omega
    have hs := sem_impl_Sealed (l.take k) (by omega)
    unfold sealF at hs
    rw [htl] at hs
    by_cases h2 : k ≤ 20000
    · rw [if_neg (show ¬ 20000 < k by omega)] at hs
      have hiff : (l.take k ++ fourF (sumF (l.take k) 4294967295) = l) ↔ (l.drop k = fourF (sumF (l.take k) 4294967295)) := by
        constructor
        · intro h
          have := congrArg (List.drop k) h
          rw [List.drop_append_of_le_length (by omega), List.drop_eq_nil_of_le (by omega)] at this
          simpa using this.symm
        · intro h
          rw [← h, List.take_append_drop]
      by_cases h3 : l.drop k = fourF (sumF (l.take k) 4294967295)
      · have h3' : (l.drop k = fourF (sumF (l.take k) 4294967295)) = True := eq_true h3
        have h5 : (l.take k ++ fourF (sumF (l.take k) 4294967295) = l) = True := eq_true (hiff.2 h3)
        simp (maxSteps := 10000000) (disch := first | assumption | omega) only [F_impl_Unsealed, params, EG, EL, ↓reduceIte, Nat.reduceEqDiff, Nat.reduceAdd, Nat.reduceSub, Nat.reduceMul, Nat.reduceLeDiff, Nat.reduceLT, Int.reduceLT, Int.reduceLE, Int.reduceEq, Int.reduceToNat, reduceCtorEq, FB, ED, FT, cx_impl_Unsealed, bsA_size, hw, hk0, hk1, hkn, h4, h4', h2, bsA_take, bsA_drop, cl_impl_Sealed, hs, bsA_inj, h3', h5, decide_true, decide_false]
      · have h3' : (l.drop k = fourF (sumF (l.take k) 4294967295)) = False := eq_false h3
        have h5 : (l.take k ++ fourF (sumF (l.take k) 4294967295) = l) = False := eq_false fun e => h3 (hiff.1 e)
        simp (maxSteps := 10000000) (disch := first | assumption | omega) only [F_impl_Unsealed, params, EG, EL, ↓reduceIte, Nat.reduceEqDiff, Nat.reduceAdd, Nat.reduceSub, Nat.reduceMul, Nat.reduceLeDiff, Nat.reduceLT, Int.reduceLT, Int.reduceLE, Int.reduceEq, Int.reduceToNat, reduceCtorEq, FB, ED, FT, cx_impl_Unsealed, bsA_size, hw, hk0, hk1, hkn, h4, h4', h2, bsA_take, bsA_drop, cl_impl_Sealed, hs, bsA_inj, h3', h5, bsA_nil, decide_true, decide_false]
    · rw [if_pos (show 20000 < k by omega)] at hs
      simp (maxSteps := 10000000) (disch := first | assumption | omega) only [F_impl_Unsealed, params, EG, EL, ↓reduceIte, Nat.reduceEqDiff, Nat.reduceAdd, Nat.reduceSub, Nat.reduceMul, Nat.reduceLeDiff, Nat.reduceLT, Int.reduceLT, Int.reduceLE, Int.reduceEq, Int.reduceToNat, reduceCtorEq, FB, ED, FT, cx_impl_Unsealed, bsA_size, hw, hk0, hk1, hkn, h4, h4', h2, bsA_take, bsA_drop, cl_impl_Sealed, hs, bsA_nil, decide_true, decide_false]
  · have h4' : (l.length : Int) < 4 := by omega
    simp (maxSteps := 10000000) (disch := first | assumption | omega) only [F_impl_Unsealed, params, EG, EL, ↓reduceIte, Nat.reduceEqDiff, Nat.reduceAdd, Nat.reduceSub, Nat.reduceMul, Nat.reduceLeDiff, Nat.reduceLT, Int.reduceLT, Int.reduceLE, Int.reduceEq, Int.reduceToNat, reduceCtorEq, FB, ED, FT, cx_impl_Unsealed, bsA_size, h4, h4', bsA_nil, decide_true, decide_false]
def nxtF (l : List UInt8) (a : Int) (bad : Bool) : Int × Int × Bool := if bad = true ∨ (rvF l a).2.2 = false then (0, a, true) else ((rvF l a).1, (rvF l a).2.1, false)
theorem fsem_spec_l19Var (l : List UInt8) (hl : l.length ≤ 1099511627776) (a : Int) (bad : Bool) : H_spec_l19Var [.ptr ⟨0, none, 0⟩ 3 0 0] [some ⟨true, 0, 3, [[.str (bsA l), .int .i64 a, .bool bad]]⟩] = some (.int .i64 (nxtF l a bad).1, [some ⟨true, 0, 3, [[.str (bsA l), .int .i64 (nxtF l a bad).2.1, .bool (nxtF l a bad).2.2]]⟩]) := by
  have hv := sem_spec_ReadVar l hl a
  rw [sh_spec_l19Var, run_goF]
  unfold nxtF
  cases bad <;> cases h : (rvF l a).2.2
  all_goals rw [h] at hv
  all_goals simp (maxSteps := 10000000) (disch := first | assumption | omega) only [F_spec_l19Var, params, EG, EL, ↓reduceIte, Nat.reduceEqDiff, Nat.reduceAdd, Nat.reduceSub, Nat.reduceMul, Nat.reduceLeDiff, Nat.reduceLT, Int.reduceLT, Int.reduceLE, Int.reduceEq, Int.reduceToNat, reduceCtorEq, FB, ED, EF, FT, cx_spec_l19Var, cl_spec_ReadVar, hv, true_or, or_true, or_false, false_or, decide_true, decide_false]
theorem fsem__impl_numbers_next (l : List UInt8) (hl : l.length ≤ 1099511627776) (a : Int) (bad : Bool) : H__impl_numbers_next [.ptr ⟨0, none, 0⟩ 3 0 0] [some ⟨true, 0, 3, [[.str (bsA l), .int .i64 a, .bool bad]]⟩] = some (.int .i64 (nxtF l a bad).1, [some ⟨true, 0, 3, [[.str (bsA l), .int .i64 (nxtF l a bad).2.1, .bool (nxtF l a bad).2.2]]⟩]) := by
  have hv := sem_impl_ReadVar l hl a
  rw [sh__impl_numbers_next, run_goF]
  unfold nxtF
  cases bad <;> cases h : (rvF l a).2.2
  all_goals rw [h] at hv
  all_goals simp (maxSteps := 10000000) (disch := first | assumption | omega) only [F__impl_numbers_next, params, EG, EL, ↓reduceIte, Nat.reduceEqDiff, Nat.reduceAdd, Nat.reduceSub, Nat.reduceMul, Nat.reduceLeDiff, Nat.reduceLT, Int.reduceLT, Int.reduceLE, Int.reduceEq, Int.reduceToNat, reduceCtorEq, FB, ED, EF, FT, cx__impl_numbers_next, cl_impl_ReadVar, hv, true_or, or_true, or_false, false_or, decide_true, decide_false]
theorem rvF_bd {l : List UInt8} {a : Int} : 0 ≤ (rvF l a).1 ∧ (rvF l a).1 ≤ 1000000000 := by
  unfold rvF
  split
  · cases scanB 5 (l.drop a.toNat) with
    | none => simp [rvR]
    | some bs =>
      unfold rvR
      simp only
      split
      · rename_i h; simp only; omega
      · simp
  · simp
theorem nxtF_bd {l : List UInt8} {a : Int} {b : Bool} : 0 ≤ (nxtF l a b).1 ∧ (nxtF l a b).1 ≤ 1000000000 := by
  unfold nxtF
  split
  · simp
  · exact rvF_bd
theorem nxtF_bad {l : List UInt8} {a : Int} : nxtF l a true = (0, a, true) := by simp [nxtF]
def runT (s : List UInt8) : List Unit → List Int → Int → Bool → List Int × Int × Bool
  | [], t, a, b => (t, a, b)
  | _ :: r, t, a, b => if b = true then (t, a, b) else runT s r (t ++ [(nxtF s a b).1 * 4194304 + (nxtF s (nxtF s a b).2.1 (nxtF s a b).2.2).1]) (nxtF s (nxtF s a b).2.1 (nxtF s a b).2.2).2.1 (nxtF s (nxtF s a b).2.1 (nxtF s a b).2.2).2.2
def runS (s : List UInt8) : List Unit → List Int → Int → Bool → List Int × Int × Bool
  | [], t, a, b => (t, a, b)
  | _ :: r, t, a, b => if b = true then (t, a, b) else runS s r (t ++ [(nxtF s a b).1]) (nxtF s a b).2.1 (nxtF s a b).2.2
theorem runT_len (s : List UInt8) : ∀ (xs : List Unit) (t : List Int) (a : Int) (b : Bool), (runT s xs t a b).2.2 = false → (runT s xs t a b).1.length = t.length + xs.length
  | [], _, _, _, _ => rfl
  | _ :: r, t, a, b, h => by
    unfold runT at h ⊢
    split at h
    · rename_i hb; simp only at h; rw [hb] at h; cases h
    · rename_i hb
      rw [if_neg hb]
      rw [runT_len s r _ _ _ h]
      simp only [List.length_append, List.length_cons, List.length_nil]; omega
theorem runS_len (s : List UInt8) : ∀ (xs : List Unit) (t : List Int) (a : Int) (b : Bool), (runS s xs t a b).2.2 = false → (runS s xs t a b).1.length = t.length + xs.length
  | [], _, _, _, _ => rfl
  | _ :: r, t, a, b, h => by
    unfold runS at h ⊢
    split at h
    · rename_i hb; simp only at h; rw [hb] at h; cases h
    · rename_i hb
      rw [if_neg hb]
      rw [runS_len s r _ _ _ h]
      simp only [List.length_append, List.length_cons, List.length_nil]; omega
theorem runT_bad (s : List UInt8) (xs : List Unit) (t : List Int) (a : Int) : runT s xs t a true = (t, a, true) := by cases xs <;> simp [runT]
theorem runS_bad (s : List UInt8) (xs : List Unit) (t : List Int) (a : Int) : runS s xs t a true = (t, a, true) := by cases xs <;> simp [runS]
def finRI (l : List UInt8) (x : DImage) (bad : Bool) : DImage × Bool := if bad = false ∧ (imageTextF x).2 = true ∧ (imageTextF x).1 = l then (x, true) else (⟨[], [], 0⟩, false)
theorem finRI_bad {l : List UInt8} {x : DImage} : finRI l x true = (⟨[], [], 0⟩, false) := by simp [finRI]
theorem finRI_not {l : List UInt8} {x : DImage} {b : Bool} (h : imageOkF x = false) : finRI l x b = (⟨[], [], 0⟩, false) := by simp [finRI, imageTextF, h]
def tailI (l s : List UInt8) (T S : List Int) (a : Int) (b : Bool) : DImage × Bool := finRI l ⟨T, S, (nxtF s a b).1⟩ (nxtF s a b).2.2
def midI (l s : List UInt8) (lim : Nat → Nat) (T : List Int) (a : Int) (b : Bool) : DImage × Bool :=
  tailI l s T (runS s (List.replicate (lim (nxtF s a b).1.toNat) ()) [] (nxtF s a b).2.1 (nxtF s a b).2.2).1 (runS s (List.replicate (lim (nxtF s a b).1.toNat) ()) [] (nxtF s a b).2.1 (nxtF s a b).2.2).2.1 (runS s (List.replicate (lim (nxtF s a b).1.toNat) ()) [] (nxtF s a b).2.1 (nxtF s a b).2.2).2.2
def readI (l s : List UInt8) (limT limS : Nat → Nat) (b : Bool) : DImage × Bool :=
  midI l s limS (runT s (List.replicate (limT (nxtF s 0 b).1.toNat) ()) [] (nxtF s 0 b).2.1 (nxtF s 0 b).2.2).1 (runT s (List.replicate (limT (nxtF s 0 b).1.toNat) ()) [] (nxtF s 0 b).2.1 (nxtF s 0 b).2.2).2.1 (runT s (List.replicate (limT (nxtF s 0 b).1.toNat) ()) [] (nxtF s 0 b).2.1 (nxtF s 0 b).2.2).2.2
def lim900 (n : Nat) : Nat := min n 900
def lim9 (n : Nat) : Nat := min n 9
def limN (n : Nat) : Nat := n
theorem tailI_bad {l s : List UInt8} {T S : List Int} {a : Int} : tailI l s T S a true = (⟨[], [], 0⟩, false) := by unfold tailI; rw [nxtF_bad]; exact finRI_bad
theorem midI_bad {l s : List UInt8} {lim : Nat → Nat} {T : List Int} {a : Int} : midI l s lim T a true = (⟨[], [], 0⟩, false) := by
  unfold midI; rw [nxtF_bad]; simp only [runS_bad]; exact tailI_bad
theorem longT {x : DImage} (h : 800 < x.Text.length) : imageOkF x = false := by
  cases hk : imageOkF x
  · rfl
  · have := imageOk_parts hk; omega
theorem longS {x : DImage} (h : 4 < x.Starts.length) : imageOkF x = false := by
  cases hk : imageOkF x
  · rfl
  · have := imageOk_parts hk; omega
theorem tail_long {l s : List UInt8} {T S : List Int} {a : Int} {b : Bool} (h : 800 < T.length ∨ 4 < S.length) : tailI l s T S a b = (⟨[], [], 0⟩, false) := by
  unfold tailI
  rcases h with h | h
  · exact finRI_not (longT h)
  · exact finRI_not (longS h)
theorem mid_long {l s : List UInt8} {lim : Nat → Nat} {T : List Int} {a : Int} {b : Bool} (h : 800 < T.length) : midI l s lim T a b = (⟨[], [], 0⟩, false) := by
  unfold midI; exact tail_long (.inl h)
theorem mid_eq {l s : List UInt8} {T : List Int} {a : Int} {b : Bool} : midI l s lim9 T a b = midI l s limN T a b := by
  by_cases h : (nxtF s a b).1.toNat ≤ 9
  · have e : lim9 (nxtF s a b).1.toNat = limN (nxtF s a b).1.toNat := by unfold lim9 limN; omega
    unfold midI; rw [e]
  · have key : ∀ lim : Nat → Nat, 5 ≤ lim (nxtF s a b).1.toNat → midI l s lim T a b = (⟨[], [], 0⟩, false) := by
      intro lim hlim
      unfold midI
      have hl := runS_len s (List.replicate (lim (nxtF s a b).1.toNat) ()) [] (nxtF s a b).2.1 (nxtF s a b).2.2
      generalize runS s (List.replicate (lim (nxtF s a b).1.toNat) ()) [] (nxtF s a b).2.1 (nxtF s a b).2.2 = R at hl
      obtain ⟨S, a2, b2⟩ := R
      cases b2
      · have := hl rfl
        simp only [List.length_nil, List.length_replicate] at this
        exact tail_long (.inr (by simp only; omega))
      · exact tailI_bad
    rw [key lim9 (by unfold lim9; omega), key limN (by unfold limN; omega)]
theorem read_eq {l s : List UInt8} {b : Bool} : readI l s lim900 lim9 b = readI l s limN limN b := by
  by_cases h : (nxtF s 0 b).1.toNat ≤ 900
  · have e : lim900 (nxtF s 0 b).1.toNat = limN (nxtF s 0 b).1.toNat := by unfold lim900 limN; omega
    unfold readI; rw [e, mid_eq]
  · have key : ∀ limT limS : Nat → Nat, 801 ≤ limT (nxtF s 0 b).1.toNat → readI l s limT limS b = (⟨[], [], 0⟩, false) := by
      intro limT limS hlim
      unfold readI
      have hl := runT_len s (List.replicate (limT (nxtF s 0 b).1.toNat) ()) [] (nxtF s 0 b).2.1 (nxtF s 0 b).2.2
      generalize runT s (List.replicate (limT (nxtF s 0 b).1.toNat) ()) [] (nxtF s 0 b).2.1 (nxtF s 0 b).2.2 = R at hl
      obtain ⟨T, a2, b2⟩ := R
      cases b2
      · have := hl rfl
        simp only [List.length_nil, List.length_replicate] at this
        exact mid_long (by simp only; omega)
      · exact midI_bad
    rw [key lim900 lim9 (by unfold lim900; omega), key limN limN (by unfold limN; omega)]
def readImageF (l : List UInt8) : DImage × Bool := readI l (unsF l).1 lim900 lim9 (!(unsF l).2)
theorem read_not {l s : List UInt8} {limT limS : Nat → Nat} : readI l s limT limS true = (⟨[], [], 0⟩, false) := by
  unfold readI; rw [nxtF_bad]; simp only [runT_bad]; exact midI_bad
theorem readImage_len (l : List UInt8) : (readImageF l).1.Text.length ≤ 800 ∧ (readImageF l).1.Starts.length ≤ 4 := by
  have key : ∀ (x : DImage) (b : Bool), (finRI l x b).1.Text.length ≤ 800 ∧ (finRI l x b).1.Starts.length ≤ 4 := by
    intro x b
    unfold finRI
    split
    · rename_i h
      have hk : imageOkF x = true := by
        cases hk : imageOkF x
        · have := h.2.1; unfold imageTextF at this; rw [hk] at this; simp at this
        · rfl
      have := imageOk_parts hk
      simp only; omega
    · simp
  unfold readImageF readI midI tailI
  exact key _ _
theorem loop0_spec_ReadImage (l s : List UInt8) (hs : s.length ≤ 1099511627776) (n : Nat) (hn : n ≤ 1000000000) (xs : List Unit) (hx : xs.length = lim900 n) (a0 : Int) (b0 : Bool) : loopV X_spec_ReadImage 0 [0, 2, 6, 7, 8, 9] [(1, [0, 2, 6, 7])] B0_spec_ReadImage ⟨[(0, .str (bsA l)), (2, .ptr ⟨0, none, 0⟩ 3 0 0), (6, .ptr ⟨3, none, 0⟩ 3 0 0), (7, .ptr ⟨4, none, 0⟩ 3 0 0), (8, .int .i64 ((n : Nat))), (9, .int .i64 0)], [some ⟨true, 0, 3, [[.sl ⟨1, none, 0⟩ 1 0 0, .sl ⟨2, none, 0⟩ 1 0 0, .int .i64 0]]⟩, some ⟨false, 0, 1, []⟩, some ⟨false, 0, 1, []⟩, some ⟨true, 0, 3, [[.str (bsA s), .int .i64 a0, .bool b0]]⟩, some ⟨true, 0, 3, [[.sl ⟨5, none, 0⟩ 1 0 0, .sl ⟨6, none, 0⟩ 1 0 0, .int .i64 0]]⟩, some ⟨false, 0, 1, []⟩, some ⟨false, 0, 1, []⟩]⟩ = some (.exit 0, ⟨[(0, .str (bsA l)), (2, .ptr ⟨0, none, 0⟩ 3 0 0), (6, .ptr ⟨3, none, 0⟩ 3 0 0), (7, .ptr ⟨4, none, 0⟩ 3 0 0)], [some ⟨true, 0, 3, [[.sl ⟨1, none, 0⟩ 1 0 0, .sl ⟨2, none, 0⟩ 1 0 0, .int .i64 0]]⟩, some ⟨false, 0, 1, []⟩, some ⟨false, 0, 1, []⟩, some ⟨true, 0, 3, [[.str (bsA s), .int .i64 (runT s xs [] a0 b0).2.1, .bool (runT s xs [] a0 b0).2.2]]⟩, some ⟨true, 0, 3, [[.sl ⟨5, none, 0⟩ 1 0 (runT s xs [] a0 b0).1.length, .sl ⟨6, none, 0⟩ 1 0 0, .int .i64 0]]⟩, some ⟨false, 0, 1, (runT s xs [] a0 b0).1.map cI⟩, some ⟨false, 0, 1, []⟩]⟩) := by
  refine loop_list xs (fun i (q : List Int × Int × Bool) => q.1.length ≤ i) (fun i q => ⟨[(0, .str (bsA l)), (2, .ptr ⟨0, none, 0⟩ 3 0 0), (6, .ptr ⟨3, none, 0⟩ 3 0 0), (7, .ptr ⟨4, none, 0⟩ 3 0 0), (8, .int .i64 ((n : Nat))), (9, .int .i64 ((i : Nat) : Int))], [some ⟨true, 0, 3, [[.sl ⟨1, none, 0⟩ 1 0 0, .sl ⟨2, none, 0⟩ 1 0 0, .int .i64 0]]⟩, some ⟨false, 0, 1, []⟩, some ⟨false, 0, 1, []⟩, some ⟨true, 0, 3, [[.str (bsA s), .int .i64 q.2.1, .bool q.2.2]]⟩, some ⟨true, 0, 3, [[.sl ⟨5, none, 0⟩ 1 0 q.1.length, .sl ⟨6, none, 0⟩ 1 0 0, .int .i64 0]]⟩, some ⟨false, 0, 1, q.1.map cI⟩, some ⟨false, 0, 1, []⟩]⟩) (fun rest q => some (.exit 0, ⟨[(0, .str (bsA l)), (2, .ptr ⟨0, none, 0⟩ 3 0 0), (6, .ptr ⟨3, none, 0⟩ 3 0 0), (7, .ptr ⟨4, none, 0⟩ 3 0 0)], [some ⟨true, 0, 3, [[.sl ⟨1, none, 0⟩ 1 0 0, .sl ⟨2, none, 0⟩ 1 0 0, .int .i64 0]]⟩, some ⟨false, 0, 1, []⟩, some ⟨false, 0, 1, []⟩, some ⟨true, 0, 3, [[.str (bsA s), .int .i64 (runT s rest q.1 q.2.1 q.2.2).2.1, .bool (runT s rest q.1 q.2.1 q.2.2).2.2]]⟩, some ⟨true, 0, 3, [[.sl ⟨5, none, 0⟩ 1 0 (runT s rest q.1 q.2.1 q.2.2).1.length, .sl ⟨6, none, 0⟩ 1 0 0, .int .i64 0]]⟩, some ⟨false, 0, 1, (runT s rest q.1 q.2.1 q.2.2).1.map cI⟩, some ⟨false, 0, 1, []⟩]⟩)) ?_ ?_ ([], a0, b0) (by simp)
  · rintro ⟨t, a, b⟩ _
    have hor : ¬ ((xs.length : Nat) : Int) < (n : Int) ∨ (((xs.length : Nat) : Int) < (n : Int) ∧ ¬ ((xs.length : Nat) : Int) < 900) := by unfold lim900 at hx; omega
    rw [loopV_by B0_spec_ReadImage.eq_1]
    rcases hor with c1 | ⟨c1, c2⟩
    · simp (maxSteps := 10000000) (disch := first | assumption | omega) only [EG, EL, ↓reduceIte, Nat.reduceEqDiff, Nat.reduceAdd, Nat.reduceSub, Nat.reduceMul, Nat.reduceLeDiff, Nat.reduceLT, Int.reduceLT, Int.reduceLE, Int.reduceEq, Int.reduceToNat, reduceCtorEq, FB, ED, EF, FT, cx_spec_ReadImage, c1, runT, decide_true, decide_false]
    · simp (maxSteps := 10000000) (disch := first | assumption | omega) only [EG, EL, ↓reduceIte, Nat.reduceEqDiff, Nat.reduceAdd, Nat.reduceSub, Nat.reduceMul, Nat.reduceLeDiff, Nat.reduceLT, Int.reduceLT, Int.reduceLE, Int.reduceEq, Int.reduceToNat, reduceCtorEq, FB, ED, EF, FT, cx_spec_ReadImage, c1, c2, runT, decide_true, decide_false]
  · rintro i hi0 y rest ⟨t, a, b⟩ rfl rfl ht ih
    simp only at ht ih
    have c1 : (i : Int) < (n : Int) := by unfold lim900 at hx; omega
    have c2 : (i : Int) < 900 := by unfold lim900 at hx; omega
    rw [loopV_by B0_spec_ReadImage.eq_1]
    cases b
    · have d1 := @nxtF_bd s a false
      have d2 := @nxtF_bd s (nxtF s a false).2.1 (nxtF s a false).2.2
      have hc : (t.length + 1) * 8 ≤ 70368744177664 := by omega
      have hw1 : IntKind.wrap .i64 ((nxtF s a false).1 * 4194304) = (nxtF s a false).1 * 4194304 := wrapI (by omega) (by omega)
      have hw2 : IntKind.wrap .i64 ((nxtF s a false).1 * 4194304 + (nxtF s (nxtF s a false).2.1 (nxtF s a false).2.2).1) = (nxtF s a false).1 * 4194304 + (nxtF s (nxtF s a false).2.1 (nxtF s a false).2.2).1 := wrapI (by omega) (by omega)
      have i1 := ih (t ++ [(nxtF s a false).1 * 4194304 + (nxtF s (nxtF s a false).2.1 (nxtF s a false).2.2).1], (nxtF s (nxtF s a false).2.1 (nxtF s a false).2.2).2.1, (nxtF s (nxtF s a false).2.1 (nxtF s a false).2.2).2.2) (by simp only [List.length_append, List.length_singleton]; omega)
      simp only [EG, EL, ↓reduceIte, Nat.reduceEqDiff, Nat.reduceAdd, Nat.reduceSub, Nat.reduceMul, Nat.reduceLeDiff, Nat.reduceLT, Int.reduceLT, Int.reduceLE, Int.reduceEq, Int.reduceToNat, reduceCtorEq, FB] at i1
      simp (maxSteps := 10000000) (disch := first | assumption | omega) only [EG, EL, ↓reduceIte, Nat.reduceEqDiff, Nat.reduceAdd, Nat.reduceSub, Nat.reduceMul, Nat.reduceLeDiff, Nat.reduceLT, Int.reduceLT, Int.reduceLE, Int.reduceEq, Int.reduceToNat, reduceCtorEq, FB, ED, EF, FT, cx_spec_ReadImage, cl_spec_l19Var, fsem_spec_l19Var, sh22, hw1, hw2, c1, c2, hc, map_cI_snoc, wrap_succ, runT, i1, decide_true, decide_false]
    · simp (maxSteps := 10000000) (disch := first | assumption | omega) only [EG, EL, ↓reduceIte, Nat.reduceEqDiff, Nat.reduceAdd, Nat.reduceSub, Nat.reduceMul, Nat.reduceLeDiff, Nat.reduceLT, Int.reduceLT, Int.reduceLE, Int.reduceEq, Int.reduceToNat, reduceCtorEq, FB, ED, EF, FT, cx_spec_ReadImage, c1, c2, runT, decide_true, decide_false]
theorem loop1_spec_ReadImage (l s : List UInt8) (hs : s.length ≤ 1099511627776) (T : List Int) (n : Nat) (hn : n ≤ 1000000000) (xs : List Unit) (hx : xs.length = lim9 n) (a0 : Int) (b0 : Bool) : loopV X_spec_ReadImage 0 [0, 2, 6, 7, 12, 13] [(3, [0, 2, 6, 7])] B1_spec_ReadImage ⟨[(0, .str (bsA l)), (2, .ptr ⟨0, none, 0⟩ 3 0 0), (6, .ptr ⟨3, none, 0⟩ 3 0 0), (7, .ptr ⟨4, none, 0⟩ 3 0 0), (12, .int .i64 ((n : Nat))), (13, .int .i64 0)], [some ⟨true, 0, 3, [[.sl ⟨1, none, 0⟩ 1 0 0, .sl ⟨2, none, 0⟩ 1 0 0, .int .i64 0]]⟩, some ⟨false, 0, 1, []⟩, some ⟨false, 0, 1, []⟩, some ⟨true, 0, 3, [[.str (bsA s), .int .i64 a0, .bool b0]]⟩, some ⟨true, 0, 3, [[.sl ⟨5, none, 0⟩ 1 0 T.length, .sl ⟨6, none, 0⟩ 1 0 0, .int .i64 0]]⟩, some ⟨false, 0, 1, T.map cI⟩, some ⟨false, 0, 1, []⟩]⟩ = some (.exit 2, ⟨[(0, .str (bsA l)), (2, .ptr ⟨0, none, 0⟩ 3 0 0), (6, .ptr ⟨3, none, 0⟩ 3 0 0), (7, .ptr ⟨4, none, 0⟩ 3 0 0)], [some ⟨true, 0, 3, [[.sl ⟨1, none, 0⟩ 1 0 0, .sl ⟨2, none, 0⟩ 1 0 0, .int .i64 0]]⟩, some ⟨false, 0, 1, []⟩, some ⟨false, 0, 1, []⟩, some ⟨true, 0, 3, [[.str (bsA s), .int .i64 (runS s xs [] a0 b0).2.1, .bool (runS s xs [] a0 b0).2.2]]⟩, some ⟨true, 0, 3, [[.sl ⟨5, none, 0⟩ 1 0 T.length, .sl ⟨6, none, 0⟩ 1 0 (runS s xs [] a0 b0).1.length, .int .i64 0]]⟩, some ⟨false, 0, 1, T.map cI⟩, some ⟨false, 0, 1, (runS s xs [] a0 b0).1.map cI⟩]⟩) := by
  refine loop_list xs (fun i (q : List Int × Int × Bool) => q.1.length ≤ i) (fun i q => ⟨[(0, .str (bsA l)), (2, .ptr ⟨0, none, 0⟩ 3 0 0), (6, .ptr ⟨3, none, 0⟩ 3 0 0), (7, .ptr ⟨4, none, 0⟩ 3 0 0), (12, .int .i64 ((n : Nat))), (13, .int .i64 ((i : Nat) : Int))], [some ⟨true, 0, 3, [[.sl ⟨1, none, 0⟩ 1 0 0, .sl ⟨2, none, 0⟩ 1 0 0, .int .i64 0]]⟩, some ⟨false, 0, 1, []⟩, some ⟨false, 0, 1, []⟩, some ⟨true, 0, 3, [[.str (bsA s), .int .i64 q.2.1, .bool q.2.2]]⟩, some ⟨true, 0, 3, [[.sl ⟨5, none, 0⟩ 1 0 T.length, .sl ⟨6, none, 0⟩ 1 0 q.1.length, .int .i64 0]]⟩, some ⟨false, 0, 1, T.map cI⟩, some ⟨false, 0, 1, q.1.map cI⟩]⟩) (fun rest q => some (.exit 2, ⟨[(0, .str (bsA l)), (2, .ptr ⟨0, none, 0⟩ 3 0 0), (6, .ptr ⟨3, none, 0⟩ 3 0 0), (7, .ptr ⟨4, none, 0⟩ 3 0 0)], [some ⟨true, 0, 3, [[.sl ⟨1, none, 0⟩ 1 0 0, .sl ⟨2, none, 0⟩ 1 0 0, .int .i64 0]]⟩, some ⟨false, 0, 1, []⟩, some ⟨false, 0, 1, []⟩, some ⟨true, 0, 3, [[.str (bsA s), .int .i64 (runS s rest q.1 q.2.1 q.2.2).2.1, .bool (runS s rest q.1 q.2.1 q.2.2).2.2]]⟩, some ⟨true, 0, 3, [[.sl ⟨5, none, 0⟩ 1 0 T.length, .sl ⟨6, none, 0⟩ 1 0 (runS s rest q.1 q.2.1 q.2.2).1.length, .int .i64 0]]⟩, some ⟨false, 0, 1, T.map cI⟩, some ⟨false, 0, 1, (runS s rest q.1 q.2.1 q.2.2).1.map cI⟩]⟩)) ?_ ?_ ([], a0, b0) (by simp)
  · rintro ⟨t, a, b⟩ _
    have hor : ¬ ((xs.length : Nat) : Int) < (n : Int) ∨ (((xs.length : Nat) : Int) < (n : Int) ∧ ¬ ((xs.length : Nat) : Int) < 9) := by unfold lim9 at hx; omega
    rw [loopV_by B1_spec_ReadImage.eq_1]
    rcases hor with c1 | ⟨c1, c2⟩
    · simp (maxSteps := 10000000) (disch := first | assumption | omega) only [EG, EL, ↓reduceIte, Nat.reduceEqDiff, Nat.reduceAdd, Nat.reduceSub, Nat.reduceMul, Nat.reduceLeDiff, Nat.reduceLT, Int.reduceLT, Int.reduceLE, Int.reduceEq, Int.reduceToNat, reduceCtorEq, FB, ED, EF, FT, cx_spec_ReadImage, c1, runS, decide_true, decide_false]
    · simp (maxSteps := 10000000) (disch := first | assumption | omega) only [EG, EL, ↓reduceIte, Nat.reduceEqDiff, Nat.reduceAdd, Nat.reduceSub, Nat.reduceMul, Nat.reduceLeDiff, Nat.reduceLT, Int.reduceLT, Int.reduceLE, Int.reduceEq, Int.reduceToNat, reduceCtorEq, FB, ED, EF, FT, cx_spec_ReadImage, c1, c2, runS, decide_true, decide_false]
  · rintro i hi0 y rest ⟨t, a, b⟩ rfl rfl ht ih
    simp only at ht ih
    have c1 : (i : Int) < (n : Int) := by unfold lim9 at hx; omega
    have c2 : (i : Int) < 9 := by unfold lim9 at hx; omega
    rw [loopV_by B1_spec_ReadImage.eq_1]
    cases b
    · have hc : (t.length + 1) * 8 ≤ 70368744177664 := by omega
      have i1 := ih (t ++ [(nxtF s a false).1], (nxtF s a false).2.1, (nxtF s a false).2.2) (by simp only [List.length_append, List.length_singleton]; omega)
      simp only [EG, EL, ↓reduceIte, Nat.reduceEqDiff, Nat.reduceAdd, Nat.reduceSub, Nat.reduceMul, Nat.reduceLeDiff, Nat.reduceLT, Int.reduceLT, Int.reduceLE, Int.reduceEq, Int.reduceToNat, reduceCtorEq, FB] at i1
      simp (maxSteps := 10000000) (disch := first | assumption | omega) only [EG, EL, ↓reduceIte, Nat.reduceEqDiff, Nat.reduceAdd, Nat.reduceSub, Nat.reduceMul, Nat.reduceLeDiff, Nat.reduceLT, Int.reduceLT, Int.reduceLE, Int.reduceEq, Int.reduceToNat, reduceCtorEq, FB, ED, EF, FT, cx_spec_ReadImage, cl_spec_l19Var, fsem_spec_l19Var, c1, c2, hc, map_cI_snoc, wrap_succ, runS, i1, decide_true, decide_false]
    · simp (maxSteps := 10000000) (disch := first | assumption | omega) only [EG, EL, ↓reduceIte, Nat.reduceEqDiff, Nat.reduceAdd, Nat.reduceSub, Nat.reduceMul, Nat.reduceLeDiff, Nat.reduceLT, Int.reduceLT, Int.reduceLE, Int.reduceEq, Int.reduceToNat, reduceCtorEq, FB, ED, EF, FT, cx_spec_ReadImage, c1, c2, runS, decide_true, decide_false]
theorem core_spec_ReadImage (l s : List UInt8) (hs : s.length ≤ 1099511627776) (hl : l.length ≤ 140737488351232) (b : Bool) (e1 : S_spec_Unsealed.sem [.str (bsA l)] = some (.tup [.str (bsA s), .bool (!b)], [])) : S_spec_ReadImage.sem [.str (bsA l)] = some (.tup [.agg (cImage (readI l s lim900 lim9 b).1), .bool (readI l s lim900 lim9 b).2], []) := by
  rw [sg_spec_ReadImage, sem_go]
  unfold readI
  have d0 := @nxtF_bd s 0 b
  have l0 := loop0_spec_ReadImage l s hs (nxtF s 0 b).1.toNat (by omega) (List.replicate (lim900 (nxtF s 0 b).1.toNat) ()) (by simp) (nxtF s 0 b).2.1 (nxtF s 0 b).2.2
  rw [show (((nxtF s 0 b).1.toNat : Nat) : Int) = (nxtF s 0 b).1 by omega] at l0
  generalize runT s (List.replicate (lim900 (nxtF s 0 b).1.toNat) ()) [] (nxtF s 0 b).2.1 (nxtF s 0 b).2.2 = R at l0 ⊢
  obtain ⟨T, a1, b1⟩ := R
  simp only at l0 ⊢
  unfold midI
  have d1 := @nxtF_bd s a1 b1
  have l1 := loop1_spec_ReadImage l s hs T (nxtF s a1 b1).1.toNat (by omega) (List.replicate (lim9 (nxtF s a1 b1).1.toNat) ()) (by simp) (nxtF s a1 b1).2.1 (nxtF s a1 b1).2.2
  rw [show (((nxtF s a1 b1).1.toNat : Nat) : Int) = (nxtF s a1 b1).1 by omega] at l1
  generalize runS s (List.replicate (lim9 (nxtF s a1 b1).1.toNat) ()) [] (nxtF s a1 b1).2.1 (nxtF s a1 b1).2.2 = R at l1 ⊢
  obtain ⟨S, a2, b2⟩ := R
  simp only at l1 ⊢
  unfold tailI finRI
  have ht := sem_spec_ImageText ⟨T, S, (nxtF s a2 b2).1⟩
  simp only [cImage] at ht
  generalize imageTextF ⟨T, S, (nxtF s a2 b2).1⟩ = Q at ht ⊢
  obtain ⟨q1, q2⟩ := Q
  simp only at ht ⊢
  generalize hb3 : (nxtF s a2 b2).2.2 = b3
  cases b3 <;> cases q2 <;> by_cases hq : q1 = l
  all_goals first | replace hq := eq_true (show q1 = l from hq) | replace hq := eq_false (show ¬ q1 = l from hq)
  all_goals simp (maxSteps := 10000000) (disch := first | assumption | omega) only [F_spec_ReadImage, params, EG, EL, ↓reduceIte, Nat.reduceEqDiff, Nat.reduceAdd, Nat.reduceSub, Nat.reduceMul, Nat.reduceLeDiff, Nat.reduceLT, Int.reduceLT, Int.reduceLE, Int.reduceEq, Int.reduceToNat, reduceCtorEq, FB, ED, EF, FT, cx_spec_ReadImage, cl_spec_Unsealed, e1, cl_spec_l19Var, fsem_spec_l19Var, l0, l1, hb3, cl_spec_ImageText, ht, bsA_inj, hq, cImage, Bool.not_not, decide_true, decide_false]
theorem loop0_impl_ReadImage (l s : List UInt8) (hs : s.length ≤ 1099511627776) (n : Nat) (hn : n ≤ 1000000000) (xs : List Unit) (hx : xs.length = limN n) (a0 : Int) (b0 : Bool) : loopV X_impl_ReadImage 0 [0, 2, 6, 7, 8, 9] [(1, [0, 2, 6, 7])] B0_impl_ReadImage ⟨[(0, .str (bsA l)), (2, .ptr ⟨0, none, 0⟩ 3 0 0), (6, .ptr ⟨3, none, 0⟩ 3 0 0), (7, .ptr ⟨4, none, 0⟩ 3 0 0), (8, .int .i64 ((n : Nat))), (9, .int .i64 0)], [some ⟨true, 0, 3, [[.sl ⟨1, none, 0⟩ 1 0 0, .sl ⟨2, none, 0⟩ 1 0 0, .int .i64 0]]⟩, some ⟨false, 0, 1, []⟩, some ⟨false, 0, 1, []⟩, some ⟨true, 0, 3, [[.str (bsA s), .int .i64 a0, .bool b0]]⟩, some ⟨true, 0, 3, [[.sl ⟨5, none, 0⟩ 1 0 0, .sl ⟨6, none, 0⟩ 1 0 0, .int .i64 0]]⟩, some ⟨false, 0, 1, []⟩, some ⟨false, 0, 1, []⟩]⟩ = some (.exit 0, ⟨[(0, .str (bsA l)), (2, .ptr ⟨0, none, 0⟩ 3 0 0), (6, .ptr ⟨3, none, 0⟩ 3 0 0), (7, .ptr ⟨4, none, 0⟩ 3 0 0)], [some ⟨true, 0, 3, [[.sl ⟨1, none, 0⟩ 1 0 0, .sl ⟨2, none, 0⟩ 1 0 0, .int .i64 0]]⟩, some ⟨false, 0, 1, []⟩, some ⟨false, 0, 1, []⟩, some ⟨true, 0, 3, [[.str (bsA s), .int .i64 (runT s xs [] a0 b0).2.1, .bool (runT s xs [] a0 b0).2.2]]⟩, some ⟨true, 0, 3, [[.sl ⟨5, none, 0⟩ 1 0 (runT s xs [] a0 b0).1.length, .sl ⟨6, none, 0⟩ 1 0 0, .int .i64 0]]⟩, some ⟨false, 0, 1, (runT s xs [] a0 b0).1.map cI⟩, some ⟨false, 0, 1, []⟩]⟩) := by
  refine loop_list xs (fun i (q : List Int × Int × Bool) => q.1.length ≤ i) (fun i q => ⟨[(0, .str (bsA l)), (2, .ptr ⟨0, none, 0⟩ 3 0 0), (6, .ptr ⟨3, none, 0⟩ 3 0 0), (7, .ptr ⟨4, none, 0⟩ 3 0 0), (8, .int .i64 ((n : Nat))), (9, .int .i64 ((i : Nat) : Int))], [some ⟨true, 0, 3, [[.sl ⟨1, none, 0⟩ 1 0 0, .sl ⟨2, none, 0⟩ 1 0 0, .int .i64 0]]⟩, some ⟨false, 0, 1, []⟩, some ⟨false, 0, 1, []⟩, some ⟨true, 0, 3, [[.str (bsA s), .int .i64 q.2.1, .bool q.2.2]]⟩, some ⟨true, 0, 3, [[.sl ⟨5, none, 0⟩ 1 0 q.1.length, .sl ⟨6, none, 0⟩ 1 0 0, .int .i64 0]]⟩, some ⟨false, 0, 1, q.1.map cI⟩, some ⟨false, 0, 1, []⟩]⟩) (fun rest q => some (.exit 0, ⟨[(0, .str (bsA l)), (2, .ptr ⟨0, none, 0⟩ 3 0 0), (6, .ptr ⟨3, none, 0⟩ 3 0 0), (7, .ptr ⟨4, none, 0⟩ 3 0 0)], [some ⟨true, 0, 3, [[.sl ⟨1, none, 0⟩ 1 0 0, .sl ⟨2, none, 0⟩ 1 0 0, .int .i64 0]]⟩, some ⟨false, 0, 1, []⟩, some ⟨false, 0, 1, []⟩, some ⟨true, 0, 3, [[.str (bsA s), .int .i64 (runT s rest q.1 q.2.1 q.2.2).2.1, .bool (runT s rest q.1 q.2.1 q.2.2).2.2]]⟩, some ⟨true, 0, 3, [[.sl ⟨5, none, 0⟩ 1 0 (runT s rest q.1 q.2.1 q.2.2).1.length, .sl ⟨6, none, 0⟩ 1 0 0, .int .i64 0]]⟩, some ⟨false, 0, 1, (runT s rest q.1 q.2.1 q.2.2).1.map cI⟩, some ⟨false, 0, 1, []⟩]⟩)) ?_ ?_ ([], a0, b0) (by simp)
  · rintro ⟨t, a, b⟩ _
    have c1 : ¬ ((xs.length : Nat) : Int) < (n : Int) := by unfold limN at hx; omega
    rw [loopV_by B0_impl_ReadImage.eq_1]
    simp (maxSteps := 10000000) (disch := first | assumption | omega) only [EG, EL, ↓reduceIte, Nat.reduceEqDiff, Nat.reduceAdd, Nat.reduceSub, Nat.reduceMul, Nat.reduceLeDiff, Nat.reduceLT, Int.reduceLT, Int.reduceLE, Int.reduceEq, Int.reduceToNat, reduceCtorEq, FB, ED, EF, FT, cx_impl_ReadImage, c1, runT, decide_true, decide_false]
  · rintro i hi0 y rest ⟨t, a, b⟩ rfl rfl ht ih
    simp only at ht ih
    have c1 : (i : Int) < (n : Int) := by unfold limN at hx; omega
    have hi9 : i ≤ 1000000000 := by omega
    rw [loopV_by B0_impl_ReadImage.eq_1]
    cases b
    · have d1 := @nxtF_bd s a false
      have d2 := @nxtF_bd s (nxtF s a false).2.1 (nxtF s a false).2.2
      have hc : (t.length + 1) * 8 ≤ 70368744177664 := by omega
      have hw1 : IntKind.wrap .i64 ((nxtF s a false).1 * 4194304) = (nxtF s a false).1 * 4194304 := wrapI (by omega) (by omega)
      have hw2 : IntKind.wrap .i64 ((nxtF s a false).1 * 4194304 + (nxtF s (nxtF s a false).2.1 (nxtF s a false).2.2).1) = (nxtF s a false).1 * 4194304 + (nxtF s (nxtF s a false).2.1 (nxtF s a false).2.2).1 := wrapI (by omega) (by omega)
      have i1 := ih (t ++ [(nxtF s a false).1 * 4194304 + (nxtF s (nxtF s a false).2.1 (nxtF s a false).2.2).1], (nxtF s (nxtF s a false).2.1 (nxtF s a false).2.2).2.1, (nxtF s (nxtF s a false).2.1 (nxtF s a false).2.2).2.2) (by simp only [List.length_append, List.length_singleton]; omega)
      simp only [EG, EL, ↓reduceIte, Nat.reduceEqDiff, Nat.reduceAdd, Nat.reduceSub, Nat.reduceMul, Nat.reduceLeDiff, Nat.reduceLT, Int.reduceLT, Int.reduceLE, Int.reduceEq, Int.reduceToNat, reduceCtorEq, FB] at i1
      simp (maxSteps := 10000000) (disch := first | assumption | omega) only [EG, EL, ↓reduceIte, Nat.reduceEqDiff, Nat.reduceAdd, Nat.reduceSub, Nat.reduceMul, Nat.reduceLeDiff, Nat.reduceLT, Int.reduceLT, Int.reduceLE, Int.reduceEq, Int.reduceToNat, reduceCtorEq, FB, ED, EF, FT, cx_impl_ReadImage, cl__impl_numbers_next, fsem__impl_numbers_next, sh22, hw1, hw2, c1, hc, map_cI_snoc, wrap_succ, runT, i1, decide_true, decide_false]
    · simp (maxSteps := 10000000) (disch := first | assumption | omega) only [EG, EL, ↓reduceIte, Nat.reduceEqDiff, Nat.reduceAdd, Nat.reduceSub, Nat.reduceMul, Nat.reduceLeDiff, Nat.reduceLT, Int.reduceLT, Int.reduceLE, Int.reduceEq, Int.reduceToNat, reduceCtorEq, FB, ED, EF, FT, cx_impl_ReadImage, c1, runT, decide_true, decide_false]
theorem loop1_impl_ReadImage (l s : List UInt8) (hs : s.length ≤ 1099511627776) (T : List Int) (n : Nat) (hn : n ≤ 1000000000) (xs : List Unit) (hx : xs.length = limN n) (a0 : Int) (b0 : Bool) : loopV X_impl_ReadImage 0 [0, 2, 6, 7, 8, 11] [(3, [0, 2, 6, 7])] B1_impl_ReadImage ⟨[(0, .str (bsA l)), (2, .ptr ⟨0, none, 0⟩ 3 0 0), (6, .ptr ⟨3, none, 0⟩ 3 0 0), (7, .ptr ⟨4, none, 0⟩ 3 0 0), (8, .int .i64 ((n : Nat))), (11, .int .i64 0)], [some ⟨true, 0, 3, [[.sl ⟨1, none, 0⟩ 1 0 0, .sl ⟨2, none, 0⟩ 1 0 0, .int .i64 0]]⟩, some ⟨false, 0, 1, []⟩, some ⟨false, 0, 1, []⟩, some ⟨true, 0, 3, [[.str (bsA s), .int .i64 a0, .bool b0]]⟩, some ⟨true, 0, 3, [[.sl ⟨5, none, 0⟩ 1 0 T.length, .sl ⟨6, none, 0⟩ 1 0 0, .int .i64 0]]⟩, some ⟨false, 0, 1, T.map cI⟩, some ⟨false, 0, 1, []⟩]⟩ = some (.exit 2, ⟨[(0, .str (bsA l)), (2, .ptr ⟨0, none, 0⟩ 3 0 0), (6, .ptr ⟨3, none, 0⟩ 3 0 0), (7, .ptr ⟨4, none, 0⟩ 3 0 0)], [some ⟨true, 0, 3, [[.sl ⟨1, none, 0⟩ 1 0 0, .sl ⟨2, none, 0⟩ 1 0 0, .int .i64 0]]⟩, some ⟨false, 0, 1, []⟩, some ⟨false, 0, 1, []⟩, some ⟨true, 0, 3, [[.str (bsA s), .int .i64 (runS s xs [] a0 b0).2.1, .bool (runS s xs [] a0 b0).2.2]]⟩, some ⟨true, 0, 3, [[.sl ⟨5, none, 0⟩ 1 0 T.length, .sl ⟨6, none, 0⟩ 1 0 (runS s xs [] a0 b0).1.length, .int .i64 0]]⟩, some ⟨false, 0, 1, T.map cI⟩, some ⟨false, 0, 1, (runS s xs [] a0 b0).1.map cI⟩]⟩) := by
  refine loop_list xs (fun i (q : List Int × Int × Bool) => q.1.length ≤ i) (fun i q => ⟨[(0, .str (bsA l)), (2, .ptr ⟨0, none, 0⟩ 3 0 0), (6, .ptr ⟨3, none, 0⟩ 3 0 0), (7, .ptr ⟨4, none, 0⟩ 3 0 0), (8, .int .i64 ((n : Nat))), (11, .int .i64 ((i : Nat) : Int))], [some ⟨true, 0, 3, [[.sl ⟨1, none, 0⟩ 1 0 0, .sl ⟨2, none, 0⟩ 1 0 0, .int .i64 0]]⟩, some ⟨false, 0, 1, []⟩, some ⟨false, 0, 1, []⟩, some ⟨true, 0, 3, [[.str (bsA s), .int .i64 q.2.1, .bool q.2.2]]⟩, some ⟨true, 0, 3, [[.sl ⟨5, none, 0⟩ 1 0 T.length, .sl ⟨6, none, 0⟩ 1 0 q.1.length, .int .i64 0]]⟩, some ⟨false, 0, 1, T.map cI⟩, some ⟨false, 0, 1, q.1.map cI⟩]⟩) (fun rest q => some (.exit 2, ⟨[(0, .str (bsA l)), (2, .ptr ⟨0, none, 0⟩ 3 0 0), (6, .ptr ⟨3, none, 0⟩ 3 0 0), (7, .ptr ⟨4, none, 0⟩ 3 0 0)], [some ⟨true, 0, 3, [[.sl ⟨1, none, 0⟩ 1 0 0, .sl ⟨2, none, 0⟩ 1 0 0, .int .i64 0]]⟩, some ⟨false, 0, 1, []⟩, some ⟨false, 0, 1, []⟩, some ⟨true, 0, 3, [[.str (bsA s), .int .i64 (runS s rest q.1 q.2.1 q.2.2).2.1, .bool (runS s rest q.1 q.2.1 q.2.2).2.2]]⟩, some ⟨true, 0, 3, [[.sl ⟨5, none, 0⟩ 1 0 T.length, .sl ⟨6, none, 0⟩ 1 0 (runS s rest q.1 q.2.1 q.2.2).1.length, .int .i64 0]]⟩, some ⟨false, 0, 1, T.map cI⟩, some ⟨false, 0, 1, (runS s rest q.1 q.2.1 q.2.2).1.map cI⟩]⟩)) ?_ ?_ ([], a0, b0) (by simp)
  · rintro ⟨t, a, b⟩ _
    have c1 : ¬ ((xs.length : Nat) : Int) < (n : Int) := by unfold limN at hx; omega
    rw [loopV_by B1_impl_ReadImage.eq_1]
    simp (maxSteps := 10000000) (disch := first | assumption | omega) only [EG, EL, ↓reduceIte, Nat.reduceEqDiff, Nat.reduceAdd, Nat.reduceSub, Nat.reduceMul, Nat.reduceLeDiff, Nat.reduceLT, Int.reduceLT, Int.reduceLE, Int.reduceEq, Int.reduceToNat, reduceCtorEq, FB, ED, EF, FT, cx_impl_ReadImage, c1, runS, decide_true, decide_false]
  · rintro i hi0 y rest ⟨t, a, b⟩ rfl rfl ht ih
    simp only at ht ih
    have c1 : (i : Int) < (n : Int) := by unfold limN at hx; omega
    have hi9 : i ≤ 1000000000 := by omega
    rw [loopV_by B1_impl_ReadImage.eq_1]
    cases b
    · have hc : (t.length + 1) * 8 ≤ 70368744177664 := by omega
      have i1 := ih (t ++ [(nxtF s a false).1], (nxtF s a false).2.1, (nxtF s a false).2.2) (by simp only [List.length_append, List.length_singleton]; omega)
      simp only [EG, EL, ↓reduceIte, Nat.reduceEqDiff, Nat.reduceAdd, Nat.reduceSub, Nat.reduceMul, Nat.reduceLeDiff, Nat.reduceLT, Int.reduceLT, Int.reduceLE, Int.reduceEq, Int.reduceToNat, reduceCtorEq, FB] at i1
      simp (maxSteps := 10000000) (disch := first | assumption | omega) only [EG, EL, ↓reduceIte, Nat.reduceEqDiff, Nat.reduceAdd, Nat.reduceSub, Nat.reduceMul, Nat.reduceLeDiff, Nat.reduceLT, Int.reduceLT, Int.reduceLE, Int.reduceEq, Int.reduceToNat, reduceCtorEq, FB, ED, EF, FT, cx_impl_ReadImage, cl__impl_numbers_next, fsem__impl_numbers_next, c1, hc, map_cI_snoc, wrap_succ, runS, i1, decide_true, decide_false]
    · simp (maxSteps := 10000000) (disch := first | assumption | omega) only [EG, EL, ↓reduceIte, Nat.reduceEqDiff, Nat.reduceAdd, Nat.reduceSub, Nat.reduceMul, Nat.reduceLeDiff, Nat.reduceLT, Int.reduceLT, Int.reduceLE, Int.reduceEq, Int.reduceToNat, reduceCtorEq, FB, ED, EF, FT, cx_impl_ReadImage, c1, runS, decide_true, decide_false]
theorem core_impl_ReadImage (l s : List UInt8) (hs : s.length ≤ 1099511627776) (hl : l.length ≤ 140737488351232) (b : Bool) (e1 : S_impl_Unsealed.sem [.str (bsA l)] = some (.tup [.str (bsA s), .bool (!b)], [])) (hbf : b = false) : S_impl_ReadImage.sem [.str (bsA l)] = some (.tup [.agg (cImage (readI l s limN limN b).1), .bool (readI l s limN limN b).2], []) := by
  rw [sg_impl_ReadImage, sem_go]
  unfold readI
  have d0 := @nxtF_bd s 0 b
  have l0 := loop0_impl_ReadImage l s hs (nxtF s 0 b).1.toNat (by omega) (List.replicate (limN (nxtF s 0 b).1.toNat) ()) (by simp) (nxtF s 0 b).2.1 (nxtF s 0 b).2.2
  rw [show (((nxtF s 0 b).1.toNat : Nat) : Int) = (nxtF s 0 b).1 by omega] at l0
  generalize runT s (List.replicate (limN (nxtF s 0 b).1.toNat) ()) [] (nxtF s 0 b).2.1 (nxtF s 0 b).2.2 = R at l0 ⊢
  obtain ⟨T, a1, b1⟩ := R
  simp only at l0 ⊢
  unfold midI
  have d1 := @nxtF_bd s a1 b1
  have l1 := loop1_impl_ReadImage l s hs T (nxtF s a1 b1).1.toNat (by omega) (List.replicate (limN (nxtF s a1 b1).1.toNat) ()) (by simp) (nxtF s a1 b1).2.1 (nxtF s a1 b1).2.2
  rw [show (((nxtF s a1 b1).1.toNat : Nat) : Int) = (nxtF s a1 b1).1 by omega] at l1
  generalize runS s (List.replicate (limN (nxtF s a1 b1).1.toNat) ()) [] (nxtF s a1 b1).2.1 (nxtF s a1 b1).2.2 = R at l1 ⊢
  obtain ⟨S, a2, b2⟩ := R
  simp only at l1 ⊢
  unfold tailI finRI
  have ht := sem_impl_ImageText ⟨T, S, (nxtF s a2 b2).1⟩
  simp only [cImage] at ht
  generalize imageTextF ⟨T, S, (nxtF s a2 b2).1⟩ = Q at ht ⊢
  obtain ⟨q1, q2⟩ := Q
  simp only at ht ⊢
  generalize hb3 : (nxtF s a2 b2).2.2 = b3
  subst hbf
  cases b3 <;> cases q2 <;> by_cases hq : q1 = l
  all_goals first | replace hq := eq_true (show q1 = l from hq) | replace hq := eq_false (show ¬ q1 = l from hq)
  all_goals simp (maxSteps := 10000000) (disch := first | assumption | omega) only [F_impl_ReadImage, params, EG, EL, ↓reduceIte, Nat.reduceEqDiff, Nat.reduceAdd, Nat.reduceSub, Nat.reduceMul, Nat.reduceLeDiff, Nat.reduceLT, Int.reduceLT, Int.reduceLE, Int.reduceEq, Int.reduceToNat, reduceCtorEq, FB, ED, EF, FT, cx_impl_ReadImage, cl_impl_Unsealed, e1, cl__impl_numbers_next, fsem__impl_numbers_next, l0, l1, hb3, cl_impl_ImageText, ht, bsA_inj, hq, cImage, Bool.not_not, decide_true, decide_false]
theorem sem_spec_ReadImage (l : List UInt8) (hl : l.length ≤ 1099511627776) : S_spec_ReadImage.sem [.str (bsA l)] = some (.tup [.agg (cImage (readImageF l).1), .bool (readImageF l).2], []) := by
  have hu := @unsF_len l
  have e1 := sem_spec_Unsealed l (by omega)
  unfold readImageF
  refine core_spec_ReadImage l (unsF l).1 (by omega) (by omega) (!(unsF l).2) ?_
  rw [Bool.not_not]; exact e1
theorem sem_impl_ReadImage (l : List UInt8) (hl : l.length ≤ 1099511627776) : S_impl_ReadImage.sem [.str (bsA l)] = some (.tup [.agg (cImage (readImageF l).1), .bool (readImageF l).2], []) := by
  have hu := @unsF_len l
  have e1 := sem_impl_Unsealed l (by omega)
  unfold readImageF
  cases hk : (unsF l).2
  · rw [hk] at e1
    rw [Bool.not_false, read_not]
    rw [sg_impl_ReadImage, sem_go]
    simp (maxSteps := 10000000) (disch := first | assumption | omega) only [F_impl_ReadImage, params, EG, EL, ↓reduceIte, Nat.reduceEqDiff, Nat.reduceAdd, Nat.reduceSub, Nat.reduceMul, Nat.reduceLeDiff, Nat.reduceLT, Int.reduceLT, Int.reduceLE, Int.reduceEq, Int.reduceToNat, reduceCtorEq, FB, ED, EF, FT, cx_impl_ReadImage, cl_impl_Unsealed, e1, cImage]
  · rw [read_eq]
    refine core_impl_ReadImage l (unsF l).1 (by omega) (by omega) (!true) ?_ rfl
    rw [Bool.not_not, ← hk]; exact e1
set_option maxHeartbeats 4000000 in
theorem law_FnExactReadImage (t : ByteArray) (g_t : gdS t) : tru F_laws_FnExactReadImage.res (go X_laws_FnExactReadImage 0 [.c F_laws_FnExactReadImage.body] ⟨params 0 [.str t], []⟩) := by
  by_cases s0 : (1048576 : Int) < (t.size : Int)
  · simp (maxSteps := 10000000) (disch := first | assumption | omega) only [F_laws_FnExactReadImage, params, EG, EL, ↓reduceIte, Nat.reduceEqDiff, Nat.reduceAdd, Nat.reduceSub, Nat.reduceMul, Nat.reduceLeDiff, Nat.reduceLT, Int.reduceLT, Int.reduceLE, Int.reduceEq, Int.reduceToNat, reduceCtorEq, ED, FB, FT, tru_ret, tru_ite, cx_laws_FnExactReadImage, s0]
  obtain ⟨l, rfl⟩ := bsA_of t
  have hl : l.length ≤ 1048576 := by rw [bsA_size] at s0; omega
  have hr0 : wtImage (readImageF l).1 ≤ 1073741824 := by
    have := readImage_len l
    simp only [wtImage]
    omega
  have hu0 := hr0
  simp only [wtImage] at hu0
  have r0_0 := tot_ct1 (readImageF l).1.Text
  have r0_1 := tot_ct1 (readImageF l).1.Starts
  have rc0 : cwImage (readImageF l).1 = tot ct1 (readImageF l).1.Text + tot ct1 (readImageF l).1.Starts := rfl
  simp (maxSteps := 10000000) (disch := first | assumption | omega) only [F_laws_FnExactReadImage, params, EG, EL, ↓reduceIte, Nat.reduceEqDiff, Nat.reduceAdd, Nat.reduceSub, Nat.reduceMul, Nat.reduceLeDiff, Nat.reduceLT, Int.reduceLT, Int.reduceLE, Int.reduceEq, Int.reduceToNat, reduceCtorEq, ED, FB, FT, tru_ret, tru_ite, cx_laws_FnExactReadImage, s0, cl_spec_ReadImage, sem_spec_ReadImage, cl_impl_ReadImage, sem_impl_ReadImage, cl_laws_eqImage, sem_laws_eqImage, cl_laws_markImage, run_goF, F_laws_markImage, cx_laws_markImage, cl_laws_markIntS, sem_laws_markIntS, cl_laws_heldImage, sem_laws_heldImage]
  repeat (first | rw [if_neg (by omega)] | rw [if_pos (by omega)])
  try trivial

end Go.Proofs.Ytdhmlhlpdejefaa.AI
